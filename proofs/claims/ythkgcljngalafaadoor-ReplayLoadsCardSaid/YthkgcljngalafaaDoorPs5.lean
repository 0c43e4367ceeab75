/-
  Texts behind one another: the symbolic simulator and what it is told of the program.
-/
import Derived.Test.YthkgcljngalafaaDoorPs4
import Derived.Below
namespace Go.Sim
noncomputable section
variable {α:Type}
theorem Eff.lay1 {P:Program} {β:Val} {w:World} {base:Nat} {o:Obj} {e:SO} (hb:β base=Option.none) (ho:e.owned=true)
  (hown:OwnRel P (β.upd base ⟨w.heap.size,0,0⟩) (w.alloc o) base e):Eff P β w base [] [e] (β.upd base ⟨w.heap.size,0,0⟩) (w.alloc o) where
 le:=Val.upd_le hb
 os:=rfl
 tape:=rfl
 output:=rfl
 drawn:=Nat.le_refl _
 size:=by show w.heap.size<=(w.heap.push o).size; simp
 dom:=fun n hn=>by
  unfold Val.upd
  rw [if_neg]; simp at hn; omega
 frame:=fun b hb _=>by show (w.heap.push o)[b]? = _; rw [Array.getElem?_push,if_neg (by omega)]
 one:=by simp
 turned:=by simp
 made:=fun i e' he=>by
  cases i with
  | zero =>
    simp at he; subst he
    exact ⟨ho,hown,_,Val.upd_same _ _ _,.inl (Nat.le_refl _)⟩
  | succ i=>simp at he
 apart:=fun i j l l' hij hi hj=>by simp at hi hj; omega
section
variable {c:Cfg} {B:Base} {go:SS->Tree} {D:SV->List SO->Prop} {S:SS->Prop}
theorem HeapRel.sameHeap {P:Program} {O:Nat->Prop} {w0:World} {β:Val} {H:List SO} {w w':World} (h:HeapRel P O w0 β H w) (hh:w'.heap=w.heap) (ho:w'.os=w.os) (ht:w'.tape=w.tape) (hu:w'.output=w.output) (hdr:w.drawn<=w'.drawn:=by first | exact Nat.le_refl _ | exact Nat.le_succ _ | exact Nat.le_succ_of_le (Nat.le_succ _)):HeapRel P O w0 β H w':=by
 have:=h.apply (Eff.none (P:=P) (β:=β) (base:=H.length) hh ho ht hu hdr) (by simp)
 rw [qhc,List.append_nil] at this
 exact this
theorem qvz (hc:CfgOK c) (hP:B.P=c.P) (hgl:B.glob=c.glob) {id:Nat} {os:Array Oper} {k:List SItem} {s:SF} {rest:List SF} {H:List SO} {β:Val} {fr:Frame} {frs:List Frame} {w:World} (hF:FrameRel β s fr) (hR:FramesRel β rest frs) (hH:HeapRel B.P B.O B.w0 β H w) (hG:BRel B β)
  (hl:((fr::frs).getLast?).map (·.fn)=some B.fn0) (htd:s.todo=.code (.region id os true)::k) {sh:Nat} (hob:(qm2 os sh (qda os.toList []) k s rest c H go).Ob D S):After B go D S (lone fr (frs++B.cs) w):=by
 have htd':=hF.todo
 rw [htd] at htd'
 cases hft:fr.todo with
 | nil=>rw [hft] at htd'; exact htd'.elim
 | cons y k' =>
   rw [hft] at htd'
   obtain ⟨hxy,hkk⟩:=htd'
   cases y <;> first | exact hxy.elim | skip
   rename_i cd
   have hcd:cd=.region id os true:=hxy
   subst hcd
   unfold qm2 at hob
   cases hok:q4h os os.toList (qda os.toList []) sh with
   | false=>rw [hok] at hob; exact hob.elim
   | true =>
     rw [hok,boolC_true] at hob
     obtain ⟨he,hok'⟩:=q2a (show boolC (qib os.toList 0) (boolC (qnd os (qsa os.toList sh) (qsa os.toList sh) (qda os.toList []) 0) (q4e (qhb (qda os.toList []) sh) sh) false) false=true from hok)
     obtain ⟨hh,ht⟩:=q2a hok'
     obtain ⟨TF,Fs,slots,sets,hFa,hfin⟩:=qup (x:=⟨c,os,H,fun T N sets=>go ⟨⟨s.fn,T,.ops os (qhb os.toList sh)::k,s.defers,s.roundOf⟩::rest,qyb (app H N) sets []⟩,qmr os.toList (qda os.toList []) sh⟩) hc _ _ _ _ 0 hob
     replace hfin:(go ⟨⟨s.fn,TF,.ops os (qhb os.toList sh)::k,s.defers,s.roundOf⟩::rest,qyb (app H (([]++slots:List (Nat × SO)).map (·.2))) sets []⟩).Ob D S:=hfin
     simp only [List.nil_append] at hfin
     rw [qoc] at hFa
     rw [qhc,List.append_nil,q1a,qdd] at hfin
     have hstep:step B.P (lone fr (frs++B.cs) w)=.next (lone (fr.atR ⟨fr.tmps,fr.defers⟩ (.inRegion os (Region.linearise.go .any os os.size (w.tape w.drawn (.order fr.fn id)) (Array.replicate os.size false) [])::k')) (frs++B.cs) { w with drawn:=w.drawn+1 }):=by
      conv=>lhs; rw [qqb hF.mode,hft]
      rw [stepR_region_draw]
      simp only [Region.schedule,hP,hc.prog.mixed,Bool.true_or,if_true,Region.linearise]
     refine .step hstep ?_
     have hH':HeapRel B.P B.O B.w0 β H { w with drawn:=w.drawn+1 }:=hH.sameHeap rfl rfl rfl rfl
     generalize ({ w with drawn:=w.drawn+1 }:World)=w1 at hH'
     have hlist:∀ j,(Array.replicate os.size false).getD j false=false:=by
      intro j
      rw [Array.getD_eq_getD_getElem?,Array.getElem?_replicate]
      split <;> rfl
     have hI:DInv ⟨c,os,H,fun T N sets=>go ⟨⟨s.fn,T,.ops os (qhb os.toList sh)::k,s.defers,s.roundOf⟩::rest,qyb (app H N) sets []⟩,qmr os.toList (qda os.toList []) sh⟩ sh TF slots sets B.O B.w0 (Array.replicate os.size false) β fr.tmps w1:=by
      have hTlen:fr.tmps.size=s.tmps.length:=by have:=qva hF.tmps; simpa using this
      refine ⟨by simp,by rw [hTlen,hFa.lenT],fun t ht => ?_,?_,fun n hn _=>hH'.bound n hn,fun i m hi => ?_,fun i _=>hlist i,hgl▸hG.glob⟩
      . rw [hFa.same t (fun o ho hd => ?_) β]
        . have:=qwe (glob:=fun _=>none) (a:=⟨fr.tmps,fr.defers⟩) hF.tmps (fun _ _ h=>by cases h) (.tmp t)
          have e:evS (fun _=>none) s.tmps (.tmp t)=getT s.tmps t:=by
           show optC (nth s.tmps t) qua (fun v=>v)=_
           unfold getT; cases nth s.tmps t <;> rfl
          rw [e] at this; exact this
        . obtain ⟨j,hj⟩:=List.mem_iff_getElem?.1 ho
          have:=ht j o hj hd
          rw [hlist] at this; cases this
      . have hgone:q0a (Array.replicate os.size false) slots=slots.map fun _=>SO.gone:=by
         unfold q0a
         apply List.map_congr_left
         intro p _
         rw [hlist]; rfl
        have hcu:qab ⟨c,os,H,fun T N sets=>go ⟨⟨s.fn,T,.ops os (qhb os.toList sh)::k,s.defers,s.roundOf⟩::rest,qyb (app H N) sets []⟩,qmr os.toList (qda os.toList []) sh⟩ sh slots sets (Array.replicate os.size false)=H++q0a (Array.replicate os.size false) slots:=by
         unfold qab; rw [hlist]; rfl
        rw [hcu,hgone,← hP]
        have hbase:=hH'.toHeapRel0
        have hin:∀ (n:Nat) (e:SO),(H++slots.map fun _=>SO.gone)[n]? = some e->H[n]? = some e\/e=SO.gone:=by
         intro n e hn
         rcases Nat.lt_or_ge n H.length with h | h
         . rw [List.getElem?_append_left h] at hn; exact .inl hn
         . rw [List.getElem?_append_right h,List.getElem?_map] at hn
           right
           cases hx:slots[n - H.length]? with
           | none=>rw [hx] at hn; cases hn
           | some p=>rw [hx] at hn; exact (Option.some.inj hn).symm
        refine ⟨fun n e hn => ?_,fun n m e e' l l' hn hm ho ho' => ?_,fun n e l hn ho => ?_,hbase.keep⟩
        . rcases hin n e hn with h | rfl
          . exact hbase.entries n e h
          . trivial
        . rcases hin n e hn with h | rfl
          . rcases hin m e' hm with h' | rfl
            . exact hbase.sep n m e e' l l' h h' ho ho'
            . cases ho'
          . cases ho
        . rcases hin n e hn with h | rfl
          . exact hbase.fresh n e l h ho
          . cases ho
      . rw [hlist] at hi; cases hi
     have hun:∀ k,unl (Array.replicate os.size false) k<=k:=by
      intro k
      induction k with
      | zero=>exact Nat.le_refl _
      | succ k ih =>
        show unl _ k+_<=k+1
        split <;> omega
     obtain ⟨β2,ts2,w2,l2,hle,hI2,hall,hst⟩:=quz he hh ht hFa fr fr.defers k' (frs++B.cs) os.size _ _ β fr.tmps w1 hI (hun _)
     replace hst:Steps c.P _ _:=hst
     rw [← hP] at hst
     have hslots:q0a l2 slots=slots.map (·.2):=by
      unfold q0a
      apply List.map_congr_left
      intro p hp
      obtain ⟨j,e⟩:=p
      by_cases hj:j<sh/\j<os.size
      . rw [hall j hj.1 hj.2]; rfl
      . exfalso
        have h1:=hFa.ge j e hp
        rw [List.length_take,Array.length_toList] at h1
        exact hj (by omega)
     refine .of_steps hst ⟨_,.refl _ _,.inl ⟨_,hfin,⟨β2,_,frs,w2,rfl,⟨⟨hF.fn,?_,?_,SD.denL_mono hle hF.defers,rfl,hF.kind,hF.round.mono hle⟩,hR.mono hle⟩,?_,⟨hgl▸hI2.glob,Val.le_trans hG.fix hle⟩,Eq.trans (q5b (f:=fr) (f':=fr.atR ⟨ts2,fr.defers⟩ _) rfl) hl⟩⟩⟩
     ·
      refine qkg (show ts2.toList.length=_ by rw [Array.length_toList]; exact hI2.tsz) fun i v hv => ?_
      have hi:=hI2.tmps i fun j o ho _=>by
       have hj:=(List.getElem?_eq_some_iff.1 ho).1
       rw [List.length_take,Array.length_toList] at hj
       exact hall j (Nat.lt_of_lt_of_le hj (Nat.min_le_left _ _)) (Nat.lt_of_lt_of_le hj (Nat.min_le_right _ _))
      have hg:getT TF i=v:=by unfold getT; rw [qca,hv]; rfl
      have hil:i<ts2.size:=by rw [hI2.tsz]; exact (List.getElem?_eq_some_iff.1 hv).1
      rw [hg] at hi
      refine ⟨_,?_,hi⟩
      show ts2.toList[i]? = some (ts2.getD i undef)
      rw [Array.getElem?_toList]
      exact qog hil rfl
     . exact ⟨⟨rfl,OpsAt.drop os sh⟩,hkk.mono hle⟩
     . refine ⟨?_,fun n hn => ?_⟩
       . have:=hI2.heap
         have hcu:qab ⟨c,os,H,fun T N sets=>go ⟨⟨s.fn,T,.ops os (qhb os.toList sh)::k,s.defers,s.roundOf⟩::rest,qyb (app H N) sets []⟩,qmr os.toList (qda os.toList []) sh⟩ sh slots sets l2=qgc (H++q0a l2 slots) sets:=by
          by_cases h0:os.toList.take sh=[]
          . rw [hFa.none h0,qof]; rfl
          . have hpos:=List.length_pos_iff.2 h0
            have h1:(os.toList.take sh).length - 1<sh/\(os.toList.take sh).length - 1<os.size:=by
             rw [List.length_take,Array.length_toList] at hpos ⊢
             omega
            unfold qab
            rw [show l2.getD ((os.toList.take sh).length - 1) false=true from hall _ h1.1 h1.2]; rfl
         rw [hcu,hslots,← hP] at this; exact this
       . rw [q8d,List.length_append,List.length_map] at hn
         have hn':H.length<=n:=by omega
         refine hI2.free n hn' fun j e hj => ?_
         have:=(List.getElem?_eq_some_iff.1 hj).1
         have h2:n - H.length<slots.length:=this
         omega
theorem q0n (hc:CfgOK c) (hP:B.P=c.P) (hgl:B.glob=c.glob) {id:Nat} {os:Array Oper} {k:List SItem} {s:SF} {rest:List SF} {H:List SO} {β:Val} {fr:Frame} {frs:List Frame} {w:World} (hF:FrameRel β s fr) (hR:FramesRel β rest frs) (hH:HeapRel B.P B.O B.w0 β H w) (hG:BRel B β)
  (hl:((fr::frs).getLast?).map (·.fn)=some B.fn0) (htd:s.todo=.code (.region id os true)::k) {sh:Nat} {hid:SO->Bool} (hob:(qor hid os sh (qda os.toList []) k s rest c H go).Ob D S):After B go D S (lone fr (frs++B.cs) w):=by
 have htd':=hF.todo
 rw [htd] at htd'
 cases hft:fr.todo with
 | nil=>rw [hft] at htd'; exact htd'.elim
 | cons y k' =>
   rw [hft] at htd'
   obtain ⟨hxy,hkk⟩:=htd'
   cases y <;> first | exact hxy.elim | skip
   rename_i cd
   have hcd:cd=.region id os true:=hxy
   subst hcd
   unfold qor at hob
   cases hok:q4h os os.toList (qda os.toList []) sh with
   | false=>rw [hok] at hob; exact hob.elim
   | true =>
     rw [hok,boolC_true] at hob
     obtain ⟨he,hok'⟩:=q2a (show boolC (qib os.toList 0) (boolC (qnd os (qsa os.toList sh) (qsa os.toList sh) (qda os.toList []) 0) (q4e (qhb (qda os.toList []) sh) sh) false) false=true from hok)
     obtain ⟨hh,ht⟩:=q2a hok'
     generalize hxe:(⟨hid,c,os,H,qsa os.toList sh,qda os.toList [],fun T H'=>go ⟨⟨s.fn,T,.ops os (qhb os.toList sh)::k,s.defers,s.roundOf⟩::rest,H'⟩⟩:CCtx)=x at hob
     have hxc:x.c=c:=by rw [← hxe]
     have hxhid:x.hid=hid:=by rw [← hxe]
     have hxo:x.os=os:=by rw [← hxe]
     have hxH:x.H=H:=by rw [← hxe]
     have hxh:x.hd=qsa os.toList sh:=by rw [← hxe]
     have hxm:x.ms=qda os.toList []:=by rw [← hxe]
     have hxf:x.fin=fun T H'=>go ⟨⟨s.fn,T,.ops os (qhb os.toList sh)::k,s.defers,s.roundOf⟩::rest,H'⟩:=by rw [← hxe]
     obtain ⟨TF,Fs,hs,hFa,hfin⟩:=qzn (x:=x) (hxc▸hc) _ _ _ _ _ (by rw [hxH]; exact fun n e h _=>h) hob
     rw [hxf] at hfin
     replace hfin:(go ⟨⟨s.fn,TF,.ops os (qhb os.toList sh)::k,s.defers,s.roundOf⟩::rest,hs (qsa os.toList sh).length⟩).Ob D S:=hfin
     rw [qoc] at hFa hfin hxh
     rw [qdd] at hfin
     have hstep:step B.P (lone fr (frs++B.cs) w)=.next (lone (fr.atR ⟨fr.tmps,fr.defers⟩ (.inRegion os (Region.linearise.go .any os os.size (w.tape w.drawn (.order fr.fn id)) (Array.replicate os.size false) [])::k')) (frs++B.cs) { w with drawn:=w.drawn+1 }):=by
      conv=>lhs; rw [qqb hF.mode,hft]
      rw [stepR_region_draw]
      simp only [Region.schedule,hP,hc.prog.mixed,Bool.true_or,if_true,Region.linearise]
     refine .step hstep ?_
     have hH':HeapRel B.P B.O B.w0 β H { w with drawn:=w.drawn+1 }:=hH.sameHeap rfl rfl rfl rfl
     generalize ({ w with drawn:=w.drawn+1 }:World)=w1 at hH'
     have hlist:∀ j,(Array.replicate os.size false).getD j false=false:=by
      intro j
      rw [Array.getD_eq_getD_getElem?,Array.getElem?_replicate]
      split <;> rfl
     have hI:CInv x sh sh none TF hs (fun _=>B.O) (fun _=>B.w0) (Array.replicate os.size false) β fr.tmps w1:=by
      have hTlen:fr.tmps.size=s.tmps.length:=by have:=qva hF.tmps; simpa using this
      refine ⟨by simp [hxo],by rw [hTlen,hFa.lenT],fun t _ ht => ?_,⟨0,Nat.zero_le _,fun j o _ _ => ?_,?_⟩,fun i m hi => ?_,fun i _=>hlist i,hxc▸hgl▸hG.glob⟩
      . rw [hFa.same t (fun o ho hd => ?_) β]
        . have:=qwe (glob:=fun _=>none) (a:=⟨fr.tmps,fr.defers⟩) hF.tmps (fun _ _ h=>by cases h) (.tmp t)
          have e:evS (fun _=>none) s.tmps (.tmp t)=getT s.tmps t:=by
           show optC (nth s.tmps t) qua (fun v=>v)=_
           unfold getT; cases nth s.tmps t <;> rfl
          rw [e] at this; exact this
        . obtain ⟨j,hj⟩:=List.mem_iff_getElem?.1 ho
          have:=ht j o (by rw [hxo]; exact hj) hd
          rw [hlist] at this; cases this
      . rw [hlist]; simp
      . rw [hFa.zero,hxc,← hP]; exact fun _=>hH'
      . rw [hlist] at hi; cases hi
     have hun:∀ k,unl (Array.replicate os.size false) k<=k:=by
      intro k
      induction k with
      | zero=>exact Nat.le_refl _
      | succ k ih =>
        show unl _ k+_<=k+1
        split <;> omega
     have hsteps:=q5j (os:=os) (s:=sh) (P:=c.P) (Inv:=fun l β ts w=>CInv x sh sh none TF hs (fun _=>B.O) (fun _=>B.w0) l β ts w) he ht fr fr.defers k' (frs++B.cs)
      (fun h=>by rw [← hxo]; exact h.size) (fun h=>h.tail) (fun h=>by rw [← hxo]; exact h.closed)
      (fun {l β ts w i} h hi his rest=>by
       have:=qem (x:=x) (s:=sh) (Nat.le_refl _) (ex:=none) (fun _ h=>by cases h) (by rw [hxo]; exact he) (by rw [hxo]; exact hh) (by rw [hxo]; exact hFa) (by rw [hxo]; exact hxh) (by rw [hxo]; exact hxm) h (by rw [hxo]; exact hi) his fr fr.defers rest k' (frs++B.cs)
       rw [hxo,hxc] at this
       obtain ⟨β',ts',w',h1,h2,_,h3⟩:=this
       exact ⟨β',ts',w',h1,h2,h3⟩)
     obtain ⟨β2,ts2,w2,l2,hle,hI2,hall,hst⟩:=hsteps os.size _ _ β fr.tmps w1 hI (hun _)
     rw [← hP] at hst
     obtain ⟨cc,hcl,hcm,hH2⟩:=hI2.heap
     replace hH2:=hH2 true
     rw [hxo] at hcl
     have hend:hs cc=hs (os.toList.take sh).length:=by
      have:=qeg hFa (a:=cc) ((os.toList.take sh).length - cc) (by omega) fun j o h1 h2 ho=>by
       cases hmo:q4b x.c.P o with
       | false=>rfl
       | true =>
         exfalso
         have hj:=(List.getElem?_eq_some_iff.1 ho).1
         rw [List.length_take,Array.length_toList] at hj
         have:=(hcm j o (by rw [hxo]; exact ho) hmo).1 (hall j (Nat.lt_of_lt_of_le hj (Nat.min_le_left _ _)) (Nat.lt_of_lt_of_le hj (Nat.min_le_right _ _)))
         omega
      rw [show cc+((os.toList.take sh).length - cc)=(os.toList.take sh).length from by omega] at this
      exact this
     rw [hend,hxc,← hP] at hH2
     refine .of_steps hst ⟨_,.refl _ _,.inl ⟨_,hfin,⟨β2,_,frs,w2,rfl,⟨⟨hF.fn,?_,?_,SD.denL_mono hle hF.defers,rfl,hF.kind,hF.round.mono hle⟩,hR.mono hle⟩,hH2,⟨by rw [hgl,← hxc]; exact hI2.glob,Val.le_trans hG.fix hle⟩,Eq.trans (q5b (f:=fr) (f':=fr.atR ⟨ts2,fr.defers⟩ _) rfl) hl⟩⟩⟩
     ·
      refine qkg (show ts2.toList.length=_ by rw [Array.length_toList]; exact hI2.tsz) fun i v hv => ?_
      have hi:=hI2.tmps i (fun h=>by cases h) fun j o ho _=>by
       have hj:=(List.getElem?_eq_some_iff.1 ho).1
       rw [hxo,List.length_take,Array.length_toList] at hj
       exact hall j (Nat.lt_of_lt_of_le hj (Nat.min_le_left _ _)) (Nat.lt_of_lt_of_le hj (Nat.min_le_right _ _))
      have hg:getT TF i=v:=by unfold getT; rw [qca,hv]; rfl
      have hil:i<ts2.size:=by rw [hI2.tsz]; exact (List.getElem?_eq_some_iff.1 hv).1
      rw [hg] at hi
      refine ⟨_,?_,hi⟩
      show ts2.toList[i]? = some (ts2.getD i undef)
      rw [Array.getElem?_toList]
      exact qog hil rfl
     . exact ⟨⟨rfl,OpsAt.drop os sh⟩,hkk.mono hle⟩
theorem getElem?_snoc {l:List α} {a:α} {n:Nat} {e:α} (h:(l++[a])[n]? = some e):l[n]? = some e\/(n=l.length/\e=a):=by
 rcases Nat.lt_or_ge n l.length with hn | hn
 . rw [List.getElem?_append_left hn] at h; exact .inl h
 . rw [List.getElem?_append_right hn] at h
   right
   cases hx:n - l.length with
   | zero=>rw [hx] at h; exact ⟨by omega,(Option.some.inj h).symm⟩
   | succ k=>rw [hx] at h; simp at h
theorem HeapRel.snoc {P:Program} {O:Nat->Prop} {w0:World} {β:Val} {H:List SO} {w:World} (h:HeapRel P O w0 β H w) (l:Loc) (e:SO)
  (he:EntryRel P O w0 (β.upd H.length l) w H.length e) (hf:e.owned=true->(w0.heap.size<=l.blk\/O l.blk)/\∀ n e' l',H[n]? = some e'->e'.owned=true->β n=some l'->l'.blk≠l.blk) :
  HeapRel P O w0 (β.upd H.length l) (H++[e]) w/\β.le (β.upd H.length l):=by
 have hb:=h.bound _ (Nat.le_refl _)
 have hle:=Val.upd_le (l:=l) hb
 have hold:∀ n,n<H.length->(β.upd H.length l) n=β n:=fun n hn=>by unfold Val.upd; rw [if_neg (by omega)]
 have hlen:∀ (n:Nat) (e:SO),H[n]? = some e->n<H.length:=fun n e h=>(List.getElem?_eq_some_iff.1 h).1
 refine ⟨⟨⟨fun n e' hn => ?_,fun n m e1 e2 l1 l2 h1 h2 o1 o2 hnm b1 b2 => ?_,fun n e' l' hn ho hl => ?_,h.keep⟩,fun n hn => ?_⟩,hle⟩
 . rcases getElem?_snoc hn with h' | ⟨rfl,rfl⟩
   . have h0:=h.entries n e' h'
     cases e' with
     | row c =>
       obtain ⟨l,vs,hl,hc,hx⟩:=h0
       exact ⟨l,vs,hle _ _ hl,hc.mono hle,hx⟩
     | own c wh el=>exact OwnRel.kept (P:=P) (e:=.own c wh el) h0 hle fun _ _ _=>rfl
     | loop s p f T ps a b d=>exact OwnRel.kept (P:=P) (e:=.loop s p f T ps a b d) h0 hle fun _ _ _=>rfl
     | deferred ds=>exact OwnRel.kept (P:=P) (e:=.deferred ds) h0 hle fun _ _ _=>rfl
     | gone=>trivial
     | obj o=>exact OwnRel.kept (P:=P) (e:=.obj o) h0 hle fun _ _ _=>rfl
   . exact he
 . rcases getElem?_snoc h1 with h1' | ⟨rfl,rfl⟩ <;> rcases getElem?_snoc h2 with h2' | ⟨rfl,rfl⟩
   . rw [hold _ (hlen _ _ h1')] at b1
     rw [hold _ (hlen _ _ h2')] at b2
     exact h.sep n m e1 e2 l1 l2 h1' h2' o1 o2 hnm b1 b2
   . rw [hold _ (hlen _ _ h1')] at b1
     rw [Val.upd_same] at b2; cases b2
     exact (hf o2).2 n e1 l1 h1' o1 b1
   . rw [hold _ (hlen _ _ h2')] at b2
     rw [Val.upd_same] at b1; cases b1
     exact ((hf o1).2 m e2 l2 h2' o2 b2).symm
   . exact absurd rfl hnm
 . rcases getElem?_snoc hn with h' | ⟨rfl,rfl⟩
   . rw [hold _ (hlen _ _ h')] at hl
     exact h.fresh n e' l' h' ho hl
   . rw [Val.upd_same] at hl; cases hl
     exact (hf ho).1
 . rw [List.length_append] at hn
   simp at hn
   unfold Val.upd
   rw [if_neg (by omega)]
   exact h.bound n (by omega)
def Owns (β:Val) (H:List SO) (b:Nat):Prop:=∃ n e l,H[n]? = some e/\e.owned=true/\β n=some l/\l.blk=b
theorem HeapRel.rebase {P:Program} {O:Nat->Prop} {w0:World} {β:Val} {H:List SO} {w:World} (h:HeapRel P O w0 β H w):HeapRel P (Owns β H) w β H w:=by
 refine ⟨⟨fun n e hn => ?_,h.sep,fun n e l hn ho hl=>.inr ⟨n,e,l,hn,ho,hl,rfl⟩,⟨rfl,rfl,rfl,Nat.le_refl _,Nat.le_refl _,fun _ _ _=>rfl⟩⟩,h.bound⟩
 have h0:=h.entries n e hn
 cases e with
 | row c =>
   obtain ⟨l,vs,hl,hc,hx⟩:=h0
   refine ⟨l,vs,hl,hc,fun i x hi => ?_⟩
   obtain ⟨h1,h2,h3⟩:=hx i x hi
   refine ⟨Nat.lt_of_lt_of_le h1 h.keep.size,?_,?_⟩
   . rintro ⟨m,e',l',hm,ho,hl',hb⟩
     rcases h.fresh m e' l' hm ho hl' with h4 | h4
     . omega
     . exact h2 (hb▸h4)
   . have:w.cell? ⟨l.blk,l.off+i,none⟩=w0.cell? ⟨l.blk,l.off+i,none⟩:=by
      unfold World.cell?
      rw [h.keep.block l.blk h1 h2]
     exact this.trans h3
 | own=>exact h0
 | loop=>exact h0
 | deferred=>exact h0
 | gone=>trivial
 | obj=>exact h0
theorem HeapRel.unnamed {P:Program} {O:Nat->Prop} {w0:World} {β β':Val} {H:List SO} {w w':World} {base:Nat} {news:List SO} (h:HeapRel P O w0 β H w) (hE:Eff P β w base [] news β' w'):HeapRel P O w0 β H w':=by
 have hE':Eff P β w H.length [] [] β w':=⟨Val.le_refl β,hE.os,hE.tape,hE.output,hE.drawn,hE.size,fun _ _=>rfl,hE.frame,hE.one,by simp,by simp,by simp⟩
 have:=h.apply hE' (by simp)
 rw [qhc,List.append_nil] at this
 exact this
theorem j7d {x:CCtx} {o:Oper} {T:List SV} {H:List SO} (h:(lyOp o x T H).Ob D S) :
  o.guard=none/\∃ v e,qnj x.c.P x.c.glob (mapN (q2d x.hid) x.H) x.os o T (.run v [e] H.length [])/\(x.fin (putT T o.dst v) (H++[e])).Ob D S:=by
 unfold lyOp at h
 cases hg:o.guard with
 | some g=>rw [hg] at h; exact h.elim
 | none =>
   rw [hg] at h
   replace h:((opS x.c.P (evS x.c.glob T) (mapN (q2d x.hid) x.H) (lenN H) o).treeD fun r=>jjc r x o.dst T H).Ob D S:=h
   obtain ⟨r,hleaf,h⟩:=R.leaf_of_ob h
   have hnd:∀ cc,o.op≠.defer cc:=by
    intro cc hd
    rcases qri (P:=x.c.P) hd with ⟨n,hn⟩ | ⟨d,hn⟩
    . rw [hn] at hleaf; exact hleaf
    . rw [hn] at hleaf
      obtain rfl:r=.defer d:=hleaf
      exact (show False from h)
   rw [qha] at hleaf
   have hev:∀ (β:Val) (ts:Array Value) (ds:List Deferred),AgreeOn β T ts (qpb x.os o)->GlobRel x.c.glob β->∀ y∈o.op.operands,(evS x.c.glob T y).den β=some (Act.eval ⟨ts,ds⟩ y):=by
    intro β ts ds ha hG y hy
    cases y with
    | tmp t =>
      have h1:=ha.at_ t (qli hy)
      have e:evS x.c.glob T (.tmp t)=getT T t:=by
       show optC (nth T t) qua (fun v=>v)=_
       unfold getT; cases nth T t <;> rfl
      rw [e]; exact h1
    | const v=>exact q0g β v
    | global g =>
      show (qwg g x.c.glob T).den β=_
      unfold qwg
      split
      . rename_i nm h
        obtain ⟨l,h1,h2,h3⟩:=hG g nm h
        simp [SV.den,SA.den,h1,h2,h3,SN.den,Act.eval]
      . rfl
    | func f=>rfl
   have hwant:∀ ts:Array Value,Region.wanted o (yielded x.os ts)=true:=fun ts=>by simp [Region.wanted,hg]
   cases r with
   | val v sets news =>
     replace h:(qn2 v sets news x o.dst T H).Ob D S:=h
     unfold qn2 at h
     split at h
     . rename_i e
       refine ⟨rfl,v,e,fun β ts ha=>⟨hwant ts,fun O w0 w hH hG hfree f cs i rest k hm htd ho hts => ?_⟩,by rw [q1a] at h; exact h⟩
       subst hts
       have hsg:=qng (P:=x.c.P) hm htd ho (hwant f.tmps) hnd (cs:=cs) (w:=w)
       obtain ⟨nx,y,w',β',hrun,hnx,hv,hE,hso⟩:=R.sat_leaf (qmf hH o (hev β f.tmps f.defers ha hG)) hleaf hfree
       exact ⟨y,w',β',hv,hE,hso,.one (qzd hsg hrun hnx)⟩
     . exact h.elim
   | enter=>exact h.elim
   | round=>exact h.elim
   | defer=>exact h.elim
   | panic=>exact h.elim
   | touch=>exact h.elim
structure LInv (x:CCtx) (s:Nat) (o0:Oper) (v0:SV) (e0:SO) (TF:List SV) (hs:Nat->List SO) (O:Nat->Prop) (w0:World) (listed:Array Bool) (β:Val) (ts:Array Value) (w:World):Prop where
 not:listed.getD s false=false->CInv x s (s+1) none TF hs (fun _=>O) (fun _=>w0) listed β ts w
 yes:listed.getD s false=true->∃ (O1:Nat->Prop) (w1:World) (l:Loc) (β1:Val),CInv x s (s+1) o0.dst TF hs (fun q=>if q then O else O1) (fun q=>if q then w0 else w1) listed β ts w/\l.blk<w1.heap.size/\¬ O1 l.blk/\w0.heap.size<=l.blk/\β1.le β /\
  OwnRel x.c.P (β1.upd (hs s).length l) w1 (hs s).length e0/\e0.owned=true/\∀ d,o0.dst=some d->d<ts.size->v0.den (β1.upd (hs s).length l)=some (ts.getD d undef)
theorem LInv.any {x:CCtx} {s:Nat} {o0:Oper} {v0:SV} {e0:SO} {TF:List SV} {hs:Nat->List SO} {O:Nat->Prop} {w0:World} {listed:Array Bool} {β:Val} {ts:Array Value} {w:World} (h:LInv x s o0 v0 e0 TF hs O w0 listed β ts w):∃ ex O1 w1,CInv x s (s+1) ex TF hs (fun q=>if q then O else O1) (fun q=>if q then w0 else w1) listed β ts w:=by
 cases hl:listed.getD s false with
 | false =>
   refine ⟨none,O,w0,?_⟩
   have:=h.not hl
   simpa using this
 | true =>
   obtain ⟨O1,w1,l,β1,h1,_⟩:=h.yes hl
   exact ⟨_,O1,w1,h1⟩
theorem Val.upd_mono {β β':Val} (h:β.le β') (n:Nat) (l:Loc):(β.upd n l).le (β'.upd n l):=by
 intro m a hm
 unfold Val.upd at hm ⊢
 split
 . rename_i he; rw [if_pos he] at hm; exact hm
 . rename_i he; rw [if_neg he] at hm; exact h _ _ hm
theorem q1n (hc:CfgOK c) (hP:B.P=c.P) (hgl:B.glob=c.glob) {id:Nat} {os:Array Oper} {k:List SItem} {s:SF} {rest:List SF} {H:List SO} {β:Val} {fr:Frame} {frs:List Frame} {w:World} (hF:FrameRel β s fr) (hR:FramesRel β rest frs) (hH:HeapRel B.P B.O B.w0 β H w) (hG:BRel B β)
  (hl:((fr::frs).getLast?).map (·.fn)=some B.fn0) (htd:s.todo=.code (.region id os true)::k) {sh:Nat} {hid:SO->Bool} (hob:(qpr hid os sh (qda os.toList []) k s rest c H go).Ob D S):After B go D S (lone fr (frs++B.cs) w):=by
 have htd':=hF.todo
 rw [htd] at htd'
 cases hft:fr.todo with
 | nil=>rw [hft] at htd'; exact htd'.elim
 | cons y k' =>
   rw [hft] at htd'
   obtain ⟨hxy,hkk⟩:=htd'
   cases y <;> first | exact hxy.elim | skip
   rename_i cd
   have hcd:cd=.region id os true:=hxy
   subst hcd
   unfold qpr at hob
   cases hok:q4h os os.toList (qda os.toList []) (Nat.succ sh) with
   | false=>rw [hok] at hob; exact hob.elim
   | true =>
     rw [hok,boolC_true] at hob
     obtain ⟨he,hok'⟩:=q2a (show boolC (qib os.toList 0) (boolC (qnd os (qsa os.toList (sh+1)) (qsa os.toList (sh+1)) (qda os.toList []) 0) (q4e (qhb (qda os.toList []) (sh+1)) (sh+1)) false) false=true from hok)
     obtain ⟨hh,ht⟩:=q2a hok'
     rw [qca] at hob
     cases ho0:os.toList[sh]? with
     | none=>rw [ho0] at hob; exact hob.elim
     | some o0 =>
     rw [ho0,optC_some] at hob
     have hoA:os[sh]? = some o0:=by rw [← Array.getElem?_toList]; exact ho0
     have hsz0:=(Array.getElem?_eq_some_iff.1 hoA).1
     have hlast:(os.toList.take (sh+1))[sh]? = some o0:=by rw [List.getElem?_take,if_pos (by omega)]; exact ho0
     generalize hxe:(⟨hid,c,os,H,qsa os.toList sh,qda os.toList [],fun T H'=>lyOp o0 ⟨hid,c,os,H,[],[],fun T H'=>go ⟨⟨s.fn,T,.ops os (qhb os.toList (Nat.succ sh))::k,s.defers,s.roundOf⟩::rest,H'⟩⟩ T H'⟩:CCtx)=x at hob
     have hxc:x.c=c:=by rw [← hxe]
     have hxhid:x.hid=hid:=by rw [← hxe]
     have hxo:x.os=os:=by rw [← hxe]
     have hxH:x.H=H:=by rw [← hxe]
     have hxh:x.hd=qsa os.toList sh:=by rw [← hxe]
     have hxm:x.ms=qda os.toList []:=by rw [← hxe]
     have hxf:x.fin=fun T H'=>lyOp o0 ⟨hid,c,os,H,[],[],fun T H'=>go ⟨⟨s.fn,T,.ops os (qhb os.toList (Nat.succ sh))::k,s.defers,s.roundOf⟩::rest,H'⟩⟩ T H':=by rw [← hxe]
     obtain ⟨TF,Fs,hs,hFa,hfin⟩:=qzn (x:=x) (hxc▸hc) _ _ _ _ _ (by rw [hxH]; exact fun n e h _=>h) hob
     rw [hxf] at hfin
     obtain ⟨hgu,v0,e0,hgood,hfin⟩:=j7d (x:=⟨hid,c,os,H,[],[],fun T H'=>go ⟨⟨s.fn,T,.ops os (qhb os.toList (Nat.succ sh))::k,s.defers,s.roundOf⟩::rest,H'⟩⟩) hfin
     replace hfin:(go ⟨⟨s.fn,putT TF o0.dst v0,.ops os (qhb os.toList (sh+1))::k,s.defers,s.roundOf⟩::rest,hs (qsa os.toList sh).length++[e0]⟩).Ob D S:=hfin
     replace hgood:qnj c.P c.glob (mapN (q2d hid) H) os o0 TF (.run v0 [e0] (hs (qsa os.toList sh).length).length []):=hgood
     rw [qoc] at hFa hfin hxh hgood
     have hlsh:(os.toList.take sh).length=sh:=by rw [List.length_take,Array.length_toList,Nat.min_eq_left (by omega)]
     rw [qdd,hlsh] at hfin
     rw [hlsh] at hgood
     obtain ⟨hreadL,hdstL⟩:=qzh _ _ _ _ _ (by rw [qoc] at hh; exact hh) sh o0 hlast
     have hstep:step B.P (lone fr (frs++B.cs) w)=.next (lone (fr.atR ⟨fr.tmps,fr.defers⟩ (.inRegion os (Region.linearise.go .any os os.size (w.tape w.drawn (.order fr.fn id)) (Array.replicate os.size false) [])::k')) (frs++B.cs) { w with drawn:=w.drawn+1 }):=by
      conv=>lhs; rw [qqb hF.mode,hft]
      rw [stepR_region_draw]
      simp only [Region.schedule,hP,hc.prog.mixed,Bool.true_or,if_true,Region.linearise]
     refine .step hstep ?_
     have hH':HeapRel B.P B.O B.w0 β H { w with drawn:=w.drawn+1 }:=hH.sameHeap rfl rfl rfl rfl
     generalize ({ w with drawn:=w.drawn+1 }:World)=w1 at hH'
     have hlist:∀ j,(Array.replicate os.size false).getD j false=false:=by
      intro j
      rw [Array.getD_eq_getD_getElem?,Array.getElem?_replicate]
      split <;> rfl
     have hI:LInv x sh o0 v0 e0 TF hs B.O B.w0 (Array.replicate os.size false) β fr.tmps w1:=by
      refine ⟨fun _ => ?_,fun h=>by rw [hlist] at h; cases h⟩
      have hTlen:fr.tmps.size=s.tmps.length:=by have:=qva hF.tmps; simpa using this
      refine ⟨by simp [hxo],by rw [hTlen,hFa.lenT],fun t _ ht => ?_,⟨0,Nat.zero_le _,fun j o _ _ => ?_,?_⟩,fun i m hi => ?_,fun i _=>hlist i,hxc▸hgl▸hG.glob⟩
      . rw [hFa.same t (fun o ho hd => ?_) β]
        . have:=qwe (glob:=fun _=>none) (a:=⟨fr.tmps,fr.defers⟩) hF.tmps (fun _ _ h=>by cases h) (.tmp t)
          have e:evS (fun _=>none) s.tmps (.tmp t)=getT s.tmps t:=by
           show optC (nth s.tmps t) qua (fun v=>v)=_
           unfold getT; cases nth s.tmps t <;> rfl
          rw [e] at this; exact this
        . obtain ⟨j,hj⟩:=List.mem_iff_getElem?.1 ho
          have:=ht j o (by rw [hxo]; exact hj) hd
          rw [hlist] at this; cases this
      . rw [hlist]; simp
      . rw [hFa.zero,hxc,← hP]; exact fun _=>hH'
      . rw [hlist] at hi; cases hi
     have hun:∀ k,unl (Array.replicate os.size false) k<=k:=by
      intro k
      induction k with
      | zero=>exact Nat.le_refl _
      | succ k ih =>
        show unl _ k+_<=k+1
        split <;> omega
     have hset0:∀ {l:Array Bool} {i j:Nat},l.size=os.size->i<os.size->(l.setIfInBounds i true).getD j false=if i=j then true else l.getD j false:=by
      intro l i j hsz hi
      by_cases hij:i=j
      . subst hij; rw [if_pos rfl]; simp [Array.getD_eq_getD_getElem?,hsz,hi]
      . rw [if_neg hij,getD_set_ne false hij]
     have hsteps:=q5j (os:=os) (s:=sh+1) (P:=c.P) (Inv:=fun l β ts w=>LInv x sh o0 v0 e0 TF hs B.O B.w0 l β ts w) he ht fr fr.defers k' (frs++B.cs)
      (fun h=>by obtain ⟨_,_,_,h⟩:=h.any; rw [← hxo]; exact h.size) (fun h=>by obtain ⟨_,_,_,h⟩:=h.any; exact h.tail) (fun h=>by obtain ⟨_,_,_,h⟩:=h.any; rw [← hxo]; exact h.closed)
      (fun {l β ts w i} h hi his rest=>by
       obtain ⟨ex',O',w',hCC⟩:=h.any
       have hlsz:l.size=os.size:=by rw [← hxo]; exact hCC.size
       obtain ⟨hunl,o,ho,hready⟩:=mem_ready.1 hi
       have hio:=(Array.getElem?_eq_some_iff.1 ho).1
       have hunf:l.getD i false=false:=by rw [qia (by rw [hlsz]; exact hio)]; exact hunl
       rcases Nat.lt_or_ge i sh with hlt | hge
       ·
        cases hls:l.getD sh false with
        | false =>
          have:=qem (x:=x) (s:=sh) (tl:=sh+1) (Nat.le_succ _) (ex:=none) (fun _ h=>by cases h) (by rw [hxo]; exact he) (by rw [hxo]; exact hh) (by rw [hxo]; exact hFa) (by rw [hxo]; exact hxh) (by rw [hxo]; exact hxm) (h.not hls) (by rw [hxo]; exact hi) hlt fr fr.defers rest k' (frs++B.cs)
          rw [hxo,hxc] at this
          obtain ⟨β',ts',w',h1,h2,_,h3⟩:=this
          refine ⟨β',ts',w',h1,⟨fun _=>h2,fun h4 => ?_⟩,h3⟩
          rw [hset0 hlsz hio,if_neg (by omega),hls] at h4; cases h4
        | true =>
          obtain ⟨O1,w1,ll,β1,hC,h5,h6,h7,h8,h9,h10,h11⟩:=h.yes hls
          have:=qem (x:=x) (s:=sh) (tl:=sh+1) (Nat.le_succ _) (ex:=o0.dst) (fun t ht=>⟨sh,o0,Nat.le_refl _,by rw [hxo]; exact hlast,ht⟩) (by rw [hxo]; exact he) (by rw [hxo]; exact hh) (by rw [hxo]; exact hFa) (by rw [hxo]; exact hxh) (by rw [hxo]; exact hxm) hC (by rw [hxo]; exact hi) hlt fr fr.defers rest k' (frs++B.cs)
          rw [hxo,hxc] at this
          obtain ⟨β',ts',w',h1,h2,h12,h3⟩:=this
          refine ⟨β',ts',w',h1,⟨fun h4 => ?_,fun _=>⟨O1,w1,ll,β1,h2,h5,h6,h7,Val.le_trans h8 h1,h9,h10,fun d hd hdl => ?_⟩⟩,h3⟩
          . rw [hset0 hlsz hio,if_neg (by omega),hls] at h4; cases h4
          . rw [h12 d hd]
            exact h11 d hd (by rw [hC.tsz,← h2.tsz]; exact hdl)
       ·
        have hish:i=sh:=by omega
        subst hish
        rw [hoA] at ho; cases ho
        have hC:=h.not hunf
        obtain ⟨cc,hcl,hcm,hHc⟩:=hC.heap
        replace hHc:=hHc true
        rw [hxc] at hHc
        rw [hxo] at hcl
        have hagree:AgreeOn β TF ts (qpb os o0):=by
         refine ⟨by rw [hC.tsz],fun t ht => ?_⟩
         refine hC.tmps t (fun h=>by cases h) fun j o' ho' hd => ?_
         rw [hxo,List.getElem?_take] at ho'
         split at ho'
         . obtain ⟨m,hm,hb⟩:=hreadL j o' t (by rw [List.getElem?_take,if_pos (by omega)]; exact ho') hd ht
           rw [← hxo] at hm
           exact qrb hC.closed (by rw [hxo]; exact hi) hm hb
         . cases ho'
        obtain ⟨hw,hrun⟩:=hgood β ts hagree
        have hG0:HeapRel0 c.P B.O B.w0 β (mapN (q2d hid) H) w:=hHc.toHeapRel0.less fun n e hn=>by
         rw [qja,List.getElem?_map] at hn
         cases hx:H[n]? with
         | none=>rw [hx] at hn; cases hn
         | some e1 =>
           rw [hx] at hn
           have hn:q2d hid e1=e:=Option.some.inj hn
           unfold q2d at hn
           cases hhe:hid e1 with
           | true=>rw [hhe] at hn; exact .inr hn.symm
           | false =>
             rw [hhe] at hn
             have hn:e1=e:=hn
             subst hn
             exact .inl (hFa.stable cc hcl n e1 (by rw [hxH]; exact hx) (by rw [hxhid]; exact hhe))
        have hlen:(hs cc).length<=(hs i).length:=by
         rw [hlsh] at hcl
         have:=j4g hFa (a:=cc) (i - cc) (by rw [hlsh]; omega)
         rwa [show cc+(i - cc)=i from by omega] at this
        have hfree:Free β (hs i).length [e0]:=fun j hj=>hHc.bound _ (by omega)
        obtain ⟨y,w',β',hv,hE,_,hst⟩:=hrun B.O B.w0 w hG0 (by have:=hC.glob; rw [hxc] at this; exact this) hfree (fr.atR ⟨ts,fr.defers⟩ (.inRegion os (i::rest)::k')) (frs++B.cs) i rest k' rfl rfl hoA rfl
        rw [Frame.finish_atR,hoA] at hst
        obtain ⟨hown,hrel,ll,hll,hblk⟩:=hE.made 0 e0 rfl
        rw [Nat.add_zero] at hrel hll
        replace hblk:w.heap.size<=ll.blk:=by
         rcases hblk with h | ⟨_,_,h,_⟩
         . exact h
         . simp at h
        have hβ':β'=β.upd (hs i).length ll:=by
         funext n
         unfold Val.upd
         split
         . rename_i hn; subst hn; exact hll
         . rename_i hn; exact hE.dom n (by simp; omega)
        rw [hβ'] at hv hrel
        have hHc':=hHc.unnamed hE
        have hlw:ll.blk<w'.heap.size:=OwnRel.lt (β:=β.upd (hs i).length ll) hrel hown (Val.upd_same _ _ _)
        have hst':Steps c.P (lone (fr.atR ⟨ts,fr.defers⟩ (.inRegion os (i::rest)::k')) (frs++B.cs) w) (lone (fr.atR (Act.put ⟨ts,fr.defers⟩ o0.dst y) (.inRegion os rest::k')) (frs++B.cs) w'):=hst
        rw [qds] at hst'
        refine ⟨β,_,w',Val.le_refl β,⟨fun h4 => ?_,fun _=>⟨Owns β (hs cc),w',ll,β,⟨by simp [hC.size],by rw [qpj]; exact hC.tsz,fun t hext ht => ?_,⟨cc,by rw [hxo]; exact hcl,fun j o' ho' hm => ?_,fun q => ?_⟩,?_,fun j hj => ?_,hC.glob⟩,hlw,?_,Nat.le_trans hHc.keep.size hblk,Val.le_refl β,hxc▸hrel,hown,fun d hd hdl => ?_⟩⟩,hst'⟩
        . rw [hset0 hlsz hio,if_pos rfl] at h4; cases h4
        . rw [qlh,if_neg (fun h=>hext h.1)]
          refine hC.tmps t (fun h=>by cases h) fun j o' ho' hd => ?_
          have:=ht j o' ho' hd
          rw [hset0 hlsz hio] at this
          have hj:=(List.getElem?_eq_some_iff.1 ho').1
          rw [hxo,hlsh] at hj
          rwa [if_neg (by omega)] at this
        . rw [hset0 hlsz hio]
          have hj:=(List.getElem?_eq_some_iff.1 ho').1
          rw [hxo,hlsh] at hj
          rw [if_neg (by omega)]
          exact hcm j o' ho' hm
        . rw [hxc]
          cases q with
          | true=>exact hHc'
          | false=>exact hHc'.rebase
        . intro j m hj hm b hb
          rw [hset0 hlsz hio] at hj ⊢
          split
          . rfl
          . by_cases hij:i=j
            . subst hij; exact qrb hC.closed (by rw [hxo]; exact hi) hm hb
            . rw [if_neg hij] at hj; exact hC.closed j m hj hm b hb
        . rw [hset0 hlsz hio,if_neg (by omega)]; exact hC.tail j hj
        . rintro ⟨n,e,l',hn,ho',hl',hb⟩
          have:=((hHc.entries n e hn).toOwn ho').lt ho' hl'
          omega
        . rw [qlh,if_pos ⟨hd,by rw [qpj] at hdl; exact hdl⟩]
          exact hv)
     obtain ⟨β2,ts2,w2,l2,hle,hI2,hall,hst⟩:=hsteps os.size _ _ β fr.tmps w1 hI (hun _)
     rw [← hP] at hst
     obtain ⟨O1,w3,ll,β1,hC,h5,h6,h7,h8,h9,h10,h11⟩:=hI2.yes (hall sh (by omega) hsz0)
     obtain ⟨cc,hcl,hcm,hH2⟩:=hC.heap
     rw [hxo] at hcl
     have hend:hs cc=hs sh:=by
      rw [hlsh] at hcl
      have:=qeg hFa (a:=cc) (sh - cc) (by rw [hlsh]; omega) fun j o h1 h2 ho=>by
       cases hmo:q4b x.c.P o with
       | false=>rfl
       | true =>
         exfalso
         have hj:=(List.getElem?_eq_some_iff.1 ho).1
         rw [hlsh] at hj
         have:=(hcm j o (by rw [hxo]; exact ho) hmo).1 (hall j (by omega) (by omega))
         omega
      rw [show cc+(sh - cc)=sh from by omega] at this
      exact this
     rw [hend,hxc] at hH2
     have hHt:HeapRel c.P B.O B.w0 β2 (hs sh) w2:=hH2 true
     have hHf:HeapRel c.P O1 w3 β2 (hs sh) w2:=hH2 false
     have hmono:=Val.upd_mono h8 (hs sh).length ll
     have hrel:OwnRel c.P (β2.upd (hs sh).length ll) w2 (hs sh).length e0:=by
      rw [hxc] at h9
      refine OwnRel.kept h9 hmono fun _ l' hl' => ?_
      rw [Val.upd_same] at hl'; cases hl'
      exact hHf.keep.block _ h5 h6
     obtain ⟨hfinH,hleB⟩:=hHt.snoc ll e0 (by
      cases e0 with
      | row=>cases h10
      | own=>exact hrel
      | loop=>exact hrel
      | deferred=>exact hrel
      | gone=>trivial
      | obj=>exact hrel) fun _=>⟨.inl h7,fun n e' l' hn ho' hl' hb=>by
        rcases hHf.fresh n e' l' hn ho' hl' with h | h
        . omega
        . exact h6 (hb▸h)⟩
     rw [← hP] at hfinH
     have hle2:=Val.le_trans hle hleB
     refine .of_steps hst ⟨_,.refl _ _,.inl ⟨_,hfin,⟨β2.upd (hs sh).length ll,_,frs,w2,rfl,⟨⟨hF.fn,?_,?_,SD.denL_mono hle2 hF.defers,rfl,hF.kind,hF.round.mono hle2⟩,hR.mono hle2⟩,hfinH,⟨by rw [hgl,← hxc]; exact hC.glob.mono hleB,Val.le_trans hG.fix hle2⟩,Eq.trans (q5b (f:=fr) (f':=fr.atR ⟨ts2,fr.defers⟩ _) rfl) hl⟩⟩⟩
     ·
      refine qkg (show ts2.toList.length=_ by rw [Array.length_toList,q0h]; exact hC.tsz) fun i v hv => ?_
      have hil:i<ts2.size:=by
       have:=(List.getElem?_eq_some_iff.1 hv).1
       rw [q0h] at this
       rw [hC.tsz]; exact this
      have hg:getT (putT TF o0.dst v0) i=v:=by unfold getT; rw [qca,hv]; rfl
      refine ⟨ts2.getD i undef,?_,?_⟩
      . show ts2.toList[i]? = some (ts2.getD i undef)
        rw [Array.getElem?_toList]
        exact qog hil rfl
      . by_cases hd:o0.dst=some i
        . rw [hd,q1h (by rw [← hC.tsz]; exact hil)] at hg
          rw [← hg]
          exact SV.den_mono hmono _ (h11 i hd hil)
        . rw [q0d hd] at hg
          rw [← hg]
          refine SV.den_mono hleB _ (hC.tmps i hd fun j o ho _ => ?_)
          have hj:=(List.getElem?_eq_some_iff.1 ho).1
          rw [hxo,hlsh] at hj
          exact hall j (by omega) (by omega)
     . exact ⟨⟨rfl,OpsAt.drop os (sh+1)⟩,hkk.mono hle2⟩
theorem qes {f:Nat->Oper->List (List Nat)} {e:List Nat}:∀ (ops:List Oper) (i0:Nat) (j:Nat) (o:Oper),ops[j]? = some o->e∈f (i0+j) o->e∈qdh f ops i0
 | [],_,_,_,h,_=>by simp at h
 | o'::ops,i0,0,o,h,he=>by
   simp at h; subst h
   show e∈app (f i0 o') (qdh f ops (Nat.succ i0))
   rw [q1a,List.mem_append]
   exact .inl he
 | o'::ops,i0,j+1,o,h,he=>by
   show e∈app (f i0 o') (qdh f ops (Nat.succ i0))
   rw [q1a,List.mem_append]
   exact .inr (qes ops (i0+1) j o (by simpa using h) (by rw [show i0+1+j=i0+(j+1) from by omega]; exact he))
theorem qq6 {e:List Nat} {l:List (List Nat)} (h:e∈l):e∈qbw l:=by
 cases l with
 | nil=>cases h
 | cons=>exact h
theorem qr6 {l:List (List Nat)} (h:l=[]):[]∈qbw l:=by subst h; exact List.mem_cons_self
theorem qfs {f:Nat->Oper->List (List Nat)}:∀ (ops:List Oper) (i0:Nat),(∀ (j:Nat) (o:Oper),ops[j]? = some o->f (i0+j) o=[])->qdh f ops i0=[]
 | [],_,_=>rfl
 | o'::ops,i0,h=>by
   show app (f i0 o') (qdh f ops (Nat.succ i0))=[]
   rw [q1a,show f i0 o'=[] from h 0 o' (by simp),qfs ops (i0+1) (fun j o ho=>by rw [show i0+1+j=i0+(j+1) from by omega]; exact h (j+1) o (by simpa using ho))]; rfl
theorem allN_iff {α:Type} {p:α->Bool} {l:List α}:allN p l=true↔∀ x∈l,p x=true:=by
 induction l with
 | nil=>exact ⟨fun _ _ h=>by simp at h,fun _=>rfl⟩
 | cons a r ih =>
   constructor
   . intro h
     obtain ⟨h1,h2⟩:=q2a (show boolC (p a) (allN p r) false=true from h)
     intro x hx
     rcases List.mem_cons.1 hx with rfl | hx
     . exact h1
     . exact ih.1 h2 x hx
   . intro h
     show boolC (p a) (allN p r) false=true
     rw [h a List.mem_cons_self,boolC_true]
     exact ih.2 fun x hx=>h x (List.mem_cons_of_mem _ hx)
theorem q8x {os:Array Oper}:∀ (fuel t:Nat) (listed:Array Bool) (b:Nat),listed.size=os.size->(∀ j,j<os.size->bitN b j=listed.getD j false)->(∀ j,os.size<=j->bitN b j=false)->Region.linearise.go .any os fuel t listed []∈qyg os.toList fuel b:=by
 intro fuel
 induction fuel with
 | zero=>intro t listed b _ _ _; exact List.mem_cons_self
 | succ fuel ih =>
   intro t listed b hsz hb hb2
   have hrd:∀ (i:Nat) (o:Oper),os[i]? = some o->(i∈Region.ready .any os listed↔bitN b i=false/\rdyE b o=true):=by
    intro i o ho
    have hio:=(Array.getElem?_eq_some_iff.1 ho).1
    rw [mem_ready,hb i hio,qia (by rw [hsz]; exact hio)]
    constructor
    . rintro ⟨h1,o',ho',hall⟩
      rw [ho] at ho'; cases ho'
      refine ⟨h1,allN_iff.2 fun e he => ?_⟩
      cases hbi:Region.binds .any e with
      | false=>rfl
      | true =>
        rw [boolC_true]
        have hl:=hall e (by simpa using he) hbi
        rcases Nat.lt_or_ge e.on os.size with h | h
        . rw [hb _ h]; exact hl
        . rw [Array.getD_eq_getD_getElem?,Array.getElem?_eq_none (by omega)] at hl; cases hl
    . rintro ⟨h1,h2⟩
      refine ⟨h1,o,ho,fun e he hbi => ?_⟩
      have:=allN_iff.1 h2 e (by simpa using he)
      rw [hbi,boolC_true] at this
      rcases Nat.lt_or_ge e.on os.size with h | h
      . rw [← hb _ h]; exact this
      . rw [hb2 _ h] at this; cases this
   show _∈qbw (qdh (fun i o=>boolC (bitN b i) [] (boolC (rdyE b o) (mapN (fun l=>i::l) (qyg os.toList fuel (Nat.lor b (Nat.pow 2 i)))) [])) os.toList 0)
   by_cases hne:Region.ready .any os listed=[]
   . rw [qoj hne]
     refine qr6 (qfs _ _ fun j o ho => ?_)
     rw [Nat.zero_add]
     rw [Array.getElem?_toList] at ho
     have hn:¬ (j∈Region.ready .any os listed):=by rw [hne]; simp
     rw [hrd j o ho] at hn
     cases h1:bitN b j with
     | true=>rfl
     | false =>
       cases h2:rdyE b o with
       | false=>rfl
       | true=>exact absurd ⟨h1,h2⟩ hn
   . obtain ⟨i,hi,t',heq⟩:=qqg hne fuel t
     obtain ⟨_,o,ho,_⟩:=mem_ready.1 hi
     have hio:=(Array.getElem?_eq_some_iff.1 ho).1
     obtain ⟨h1,h2⟩:=(hrd i o ho).1 hi
     rw [heq]
     refine qq6 (qes _ 0 i o (by rw [Array.getElem?_toList]; exact ho) ?_)
     rw [Nat.zero_add,h1,h2,boolC_false,boolC_true,qja,List.mem_map]
     have hbit:∀ j,bitN (Nat.lor b (Nat.pow 2 i)) j=(bitN b j || decide (i=j)):=by
      intro j
      show Nat.testBit (b ||| 2 ^ i) j=_
      rw [Nat.testBit_or,Nat.testBit_two_pow]; rfl
     refine ⟨_,ih t' _ _ (by simp [hsz]) (fun j hj => ?_) (fun j hj => ?_),rfl⟩
     . rw [hbit]
       by_cases hij:i=j
       . subst hij
         simp [Array.getD_eq_getD_getElem?,hsz,hio]
       . rw [getD_set_ne false hij,hb j hj]; simp [hij]
     . rw [hbit,hb2 j hj]
       have:i≠j:=by omega
       simp [this]
theorem qmq {f:List Nat->Tree} {e:List Nat}:∀ (l:List (List Nat)) (i:Nat),e∈l->∃ z,∀ (D:SV->List SO->Prop) (S:SS->Prop),(qwh f l z i).Ob D S->(f e).Ob D S:=by
 intro l
 have key:∀ (l:List (List Nat)) (i:Nat),e∈l->∃ z,i<=z/\∀ (D:SV->List SO->Prop) (S:SS->Prop),(qwh f l z i).Ob D S->(f e).Ob D S:=by
  intro l
  induction l with
  | nil=>intro i h; cases h
  | cons a r ih =>
    intro i h
    cases r with
    | nil =>
      have:e=a:=by simpa using h
      subst this
      exact ⟨i,Nat.le_refl _,fun D S h=>h⟩
    | cons a2 r =>
      by_cases he:e=a
      . subst he
        exact ⟨i,Nat.le_refl _,fun D S h=>h.1 (decide_eq_true rfl)⟩
      . obtain ⟨z,hz,hf⟩:=ih (i+1) ((List.mem_cons.1 h).resolve_left he)
        exact ⟨z,by omega,fun D S h=>hf D S (h.2 (decide_eq_false (by omega)))⟩
 intro i h
 obtain ⟨z,_,hz⟩:=key l i h
 exact ⟨z,hz⟩
theorem qnq {os:Array Oper}:∀ {idx:List Nat},(∀ i∈idx,∃ o,os[i]? = some o)->OpsAt os idx (opsE os.toList idx)
 | [],_=>trivial
 | i::is,h=>by
   obtain ⟨o,ho⟩:=h i List.mem_cons_self
   show OpsAt os (i::is) (optC (nth os.toList i) (opsE os.toList is) fun o=>o::opsE os.toList is)
   rw [qca,Array.getElem?_toList,ho]
   exact ⟨ho,qnq fun j hj=>h j (List.mem_cons_of_mem _ hj)⟩
theorem jtc {os:Array Oper}:∀ (fuel t:Nat) (listed:Array Bool),∀ i∈Region.linearise.go .any os fuel t listed [],∃ o,os[i]? = some o:=by
 intro fuel
 induction fuel with
 | zero=>intro t listed i hi; simp [Region.linearise.go] at hi
 | succ fuel ih =>
   intro t listed i hi
   by_cases hne:Region.ready .any os listed=[]
   . rw [qoj hne] at hi; cases hi
   . obtain ⟨i0,hi0,t',heq⟩:=qqg hne fuel t
     rw [heq] at hi
     rcases List.mem_cons.1 hi with rfl | hi
     . obtain ⟨_,o,ho,_⟩:=mem_ready.1 hi0
       exact ⟨o,ho⟩
     . exact ih _ _ i hi
theorem qvp (hc:CfgOK c) (hP:B.P=c.P) {id:Nat} {os:Array Oper} {k:List SItem} {s:SF} {rest:List SF} {H:List SO} {β:Val} {fr:Frame} {frs:List Frame} {w:World} (hF:FrameRel β s fr) (hR:FramesRel β rest frs) (hH:HeapRel B.P B.O B.w0 β H w) (hG:BRel B β)
  (hl:((fr::frs).getLast?).map (·.fn)=some B.fn0) (htd:s.todo=.code (.region id os true)::k) (hob:(qo2 os k s rest c H go).Ob D S):After B go D S (lone fr (frs++B.cs) w):=by
 have htd':=hF.todo
 rw [htd] at htd'
 cases hft:fr.todo with
 | nil=>rw [hft] at htd'; exact htd'.elim
 | cons y k' =>
   rw [hft] at htd'
   obtain ⟨hxy,hkk⟩:=htd'
   cases y <;> first | exact hxy.elim | skip
   rename_i cd
   have hcd:cd=.region id os true:=hxy
   subst hcd
   have hstep:step B.P (lone fr (frs++B.cs) w)=.next (lone (fr.atR ⟨fr.tmps,fr.defers⟩ (.inRegion os (Region.linearise.go .any os os.size (w.tape w.drawn (.order fr.fn id)) (Array.replicate os.size false) [])::k')) (frs++B.cs) { w with drawn:=w.drawn+1 }):=by
    conv=>lhs; rw [qqb hF.mode,hft]
    rw [stepR_region_draw]
    simp only [Region.schedule,hP,hc.prog.mixed,Bool.true_or,if_true,Region.linearise]
   refine .step hstep ?_
   have hH':HeapRel B.P B.O B.w0 β H { w with drawn:=w.drawn+1 }:=hH.sameHeap rfl rfl rfl rfl
   have hlist:∀ j,(Array.replicate os.size false).getD j false=false:=by
    intro j
    rw [Array.getD_eq_getD_getElem?,Array.getElem?_replicate]
    split <;> rfl
   have hmem:=q8x (os:=os) os.size (w.tape w.drawn (.order fr.fn id)) (Array.replicate os.size false) 0 (by simp) (fun j _=>by rw [hlist]; exact Nat.zero_testBit j) (fun j _=>Nat.zero_testBit j)
   have hin:=jtc (os:=os) os.size (w.tape w.drawn (.order fr.fn id)) (Array.replicate os.size false)
   generalize Region.linearise.go .any os os.size (w.tape w.drawn (.order fr.fn id)) (Array.replicate os.size false) []=idx at hmem hin
   generalize ({ w with drawn:=w.drawn+1 }:World)=w1 at hH'
   have hmem:idx∈qyg os.toList (lenN os.toList) 0:=by rw [qha,Array.length_toList]; exact hmem
   obtain ⟨z,hz⟩:=qmq (f:=fun idx=>go ⟨s.to (.ops os (opsE os.toList idx)::k)::rest,H⟩) _ 0 hmem
   have hgo:=hz D S (hob fun _=>z)
   refine ⟨_,.refl _ _,.inl ⟨_,hgo,⟨β,_,frs,w1,rfl,⟨hF.to ⟨⟨rfl,qnq hin⟩,hkk⟩,hR⟩,hH',hG,?_⟩⟩⟩
   have:=q5b (f:=fr) (f':=fr.atR ⟨fr.tmps,fr.defers⟩ (.inRegion os idx::k')) (frs:=frs) rfl
   rw [this]; exact hl
end
end
noncomputable section
variable {α:Type}
theorem qot {listed:Array Bool} {s:Nat}:∀ {n:Nat},(∀ j,j<n->listed.getD j true=decide (j<s))->unl listed n=n - s
 | 0,_=>by simp [unl]
 | n+1,h=>by
   show unl listed n+(if listed.getD n true then 0 else 1)=_
   rw [qot fun j hj=>h j (by omega),h n (by omega)]
   by_cases c:n<s
   . simp [c]; omega
   . simp [c]; omega
section
variable {x:DCtx} {s:Nat} {T TF:List SV} {Fs:List Fct} {slots sets:List (Nat × SO)} {O:Nat->Prop} {w0:World}
theorem qwv (he:qib x.os.toList 0=true) (hh:qnd x.os (qsa x.os.toList s) (qsa x.os.toList s) (qda x.os.toList []) 0=true) (ht:qqr (qda x.os.toList []) s=true) (hF:Facts x (x.os.toList.take s) (qda x.os.toList []) T 0 [] TF Fs slots sets)
  (fr:Frame) (ds:List Deferred) (k:List Item) (cs:List Frame):∀ (fuel t:Nat) (listed:Array Bool) (β:Val) (ts:Array Value) (w:World),DInv x s TF slots sets O w0 listed β ts w->unl listed x.os.size=fuel ->
  ∃ β' ts' w' listed' t',β.le β'/\DInv x s TF slots sets O w0 listed' β' ts' w'/\(∀ j,j<s->j<x.os.size->listed'.getD j false=true) /\
    Steps x.c.P (lone (fr.atR ⟨ts,ds⟩ (.inRegion x.os (Region.linearise.go .any x.os fuel t listed [])::k)) cs w) (lone (fr.atR ⟨ts',ds⟩ (.inRegion x.os (Region.linearise.go .any x.os (x.os.size - s) t' listed' [])::k)) cs w'):=by
 have htm:∀ (i m:Nat),s<=i->(qda x.os.toList [])[i]? = some m->∀ j,j<s->m.testBit j=true:=by
  intro i m hi hm j hj
  have:m∈qhb (qda x.os.toList []) s:=by
   rw [qdd]
   refine List.mem_iff_getElem?.2 ⟨i - s,?_⟩
   rw [List.getElem?_drop,show s+(i - s)=i from by omega]; exact hm
  exact qnf (allN_iff.1 ht m this) hj
 intro fuel
 induction fuel with
 | zero =>
   intro t listed β ts w hI hf
   have hall:∀ j,j<x.os.size->listed.getD j true=true:=by
    intro j hj
    cases h:listed.getD j true with
    | true=>rfl
    | false=>have:=q7k hj h; omega
   have hs:x.os.size<=s:=by
    rcases Nat.lt_or_ge s x.os.size with h | h
    . have h1:=hI.tail s (Nat.le_refl _)
      rw [qia (by rw [hI.size]; exact h),hall s h] at h1; cases h1
    . exact h
   refine ⟨β,ts,w,listed,t,Val.le_refl β,hI,fun j _ hj=>by rw [qia (by rw [hI.size]; exact hj)]; exact hall j hj,?_⟩
   rw [show x.os.size - s=0 from by omega]
   exact .refl _ _
 | succ fuel ih =>
   intro t listed β ts w hI hf
   by_cases hall:∀ j,j<s->j<x.os.size->listed.getD j false=true
   . refine ⟨β,ts,w,listed,t,Val.le_refl β,hI,hall,?_⟩
     have hdec:∀ j,j<x.os.size->listed.getD j true=decide (j<s):=by
      intro j hj
      rw [← qia (by rw [hI.size]; exact hj)]
      by_cases hjs:j<s
      . rw [hall j hjs hj]; simp [hjs]
      . rw [hI.tail j (by omega)]; simp [hjs]
     rw [show x.os.size - s=fuel+1 from by rw [← hf]; exact (qot hdec).symm]
     exact .refl _ _
   ·
    have hex:∃ i,i<s/\i<x.os.size/\listed.getD i true=false/\∀ j,j<i->listed.getD j false=true:=by
     have hgen:∀ n,(∃ i,i<n/\i<s/\i<x.os.size/\listed.getD i true=false/\∀ j,j<i->listed.getD j false=true)\/(∀ j,j<n->j<s->j<x.os.size->listed.getD j false=true):=by
      intro n
      induction n with
      | zero=>exact .inr fun j hj=>by omega
      | succ n ih2 =>
        rcases ih2 with ⟨i,h1,h2⟩ | h
        . exact .inl ⟨i,by omega,h2⟩
        . by_cases hn:n<s/\n<x.os.size/\listed.getD n false=false
          . refine .inl ⟨n,by omega,hn.1,hn.2.1,?_,fun j hj=>h j hj (by omega) (by omega)⟩
            rw [← qia (by rw [hI.size]; exact hn.2.1)]; exact hn.2.2
          . refine .inr fun j hj h1 h2 => ?_
            by_cases hjn:j=n
            . subst hjn
              cases hx:listed.getD j false with
              | true=>rfl
              | false=>exact absurd ⟨h1,h2,hx⟩ hn
            . exact h j (by omega) h1 h2
     rcases hgen s with ⟨i,_,h⟩ | h
     . exact ⟨i,h⟩
     . exact absurd (fun j h1 h2=>h j h1 h1 h2) hall
    obtain ⟨i0,h1,h2,h3,h4⟩:=hex
    have hin:=qxe he h2 h3 h4
    obtain ⟨i,hi,t',heq⟩:=qqg (List.ne_nil_of_mem hin) fuel t
    have hio:i<x.os.size:=by
     obtain ⟨_,o,ho,_⟩:=mem_ready.1 hi
     exact (Array.getElem?_eq_some_iff.1 ho).1
    have his:i<s:=by
     rcases Nat.lt_or_ge i s with h | h
     . exact h
     . exfalso
       obtain ⟨_,hml,_⟩:=qhd x.os.toList []
       have hlt:i<(qda x.os.toList []).length:=by rw [hml]; simpa using hio
       have:=qrb hI.closed hi (List.getElem?_eq_getElem hlt) (htm i _ h (List.getElem?_eq_getElem hlt) i0 h1)
       rw [qia (by rw [hI.size]; exact h2),h3] at this; cases this
    obtain ⟨β1,ts1,w1,hle,hI1,hst⟩:=qxu he hh hF hI hi his fr ds (Region.linearise.go .any x.os fuel t' (listed.setIfInBounds i true) []) k cs
    have hu:=q7i (mem_ready.1 hi).1 x.os.size
    rw [if_pos hio] at hu
    obtain ⟨β2,ts2,w2,l2,t2,hle2,hI2,hall2,hst2⟩:=ih t' (listed.setIfInBounds i true) β1 ts1 w1 hI1 (by omega)
    exact ⟨β2,ts2,w2,l2,t2,Val.le_trans hle hle2,hI2,hall2,by rw [heq]; exact hst.trans hst2⟩
end
section
variable {c:Cfg} {B:Base} {go:SS->Tree} {D:SV->List SO->Prop} {S:SS->Prop}
theorem qwz (hc:CfgOK c) (hP:B.P=c.P) (hgl:B.glob=c.glob) {id:Nat} {os:Array Oper} {k:List SItem} {s:SF} {rest:List SF} {H:List SO} {β:Val} {fr:Frame} {frs:List Frame} {w:World} (hF:FrameRel β s fr) (hR:FramesRel β rest frs) (hH:HeapRel B.P B.O B.w0 β H w) (hG:BRel B β)
  (hl:((fr::frs).getLast?).map (·.fn)=some B.fn0) (htd:s.todo=.code (.region id os true)::k) {sh:Nat} (hob:(qp2 os sh (qda os.toList []) k s rest c H go).Ob D S):After B go D S (lone fr (frs++B.cs) w):=by
 have htd':=hF.todo
 rw [htd] at htd'
 cases hft:fr.todo with
 | nil=>rw [hft] at htd'; exact htd'.elim
 | cons y k' =>
   rw [hft] at htd'
   obtain ⟨hxy,hkk⟩:=htd'
   cases y <;> first | exact hxy.elim | skip
   rename_i cd
   have hcd:cd=.region id os true:=hxy
   subst hcd
   unfold qp2 at hob
   cases he:qib os.toList 0 with
   | false=>rw [he] at hob; exact hob.elim
   | true =>
   rw [he,boolC_true] at hob
   cases hh:qnd os (qsa os.toList sh) (qsa os.toList sh) (qda os.toList []) 0 with
   | false=>rw [hh] at hob; exact hob.elim
   | true =>
   rw [hh,boolC_true] at hob
   cases ht:qqr (qda os.toList []) sh with
   | false=>rw [ht] at hob; exact hob.elim
   | true =>
   rw [ht,boolC_true] at hob
   cases hsz:Nat.ble sh (lenN os.toList) with
   | false=>rw [hsz] at hob; exact hob.elim
   | true =>
     rw [hsz,boolC_true] at hob
     have hsz:sh<=os.size:=by
      have:=Nat.le_of_ble_eq_true hsz
      rwa [qha,Array.length_toList] at this
     obtain ⟨TF,Fs,slots,sets,hFa,hfin⟩:=qup (x:=⟨c,os,H,fun T N sets=>.any fun z=>qwh (fun idx=>go ⟨⟨s.fn,T,.ops os (opsE os.toList idx)::k,s.defers,s.roundOf⟩::rest,qyb (app H N) sets []⟩) (qyg os.toList (Nat.sub (lenN os.toList) sh) (Nat.sub (Nat.pow 2 sh) 1)) (z 0) 0,none⟩) hc _ _ _ _ 0 hob
     replace hfin:∀ z:Nat->Nat,(qwh (fun idx=>go ⟨⟨s.fn,TF,.ops os (opsE os.toList idx)::k,s.defers,s.roundOf⟩::rest,qyb (app H (([]++slots:List (Nat × SO)).map (·.2))) sets []⟩) (qyg os.toList (Nat.sub (lenN os.toList) sh) (Nat.sub (Nat.pow 2 sh) 1)) (z 0) 0).Ob D S:=hfin
     simp only [List.nil_append] at hfin
     rw [qoc] at hFa
     simp only [qhc,List.append_nil,q1a] at hfin
     have hstep:step B.P (lone fr (frs++B.cs) w)=.next (lone (fr.atR ⟨fr.tmps,fr.defers⟩ (.inRegion os (Region.linearise.go .any os os.size (w.tape w.drawn (.order fr.fn id)) (Array.replicate os.size false) [])::k')) (frs++B.cs) { w with drawn:=w.drawn+1 }):=by
      conv=>lhs; rw [qqb hF.mode,hft]
      rw [stepR_region_draw]
      simp only [Region.schedule,hP,hc.prog.mixed,Bool.true_or,if_true,Region.linearise]
     refine .step hstep ?_
     have hH':HeapRel B.P B.O B.w0 β H { w with drawn:=w.drawn+1 }:=hH.sameHeap rfl rfl rfl rfl
     generalize ({ w with drawn:=w.drawn+1 }:World)=w1 at hH'
     have hlist:∀ j,(Array.replicate os.size false).getD j false=false:=by
      intro j
      rw [Array.getD_eq_getD_getElem?,Array.getElem?_replicate]
      split <;> rfl
     have hI:DInv ⟨c,os,H,fun T N sets=>.any fun z=>qwh (fun idx=>go ⟨⟨s.fn,T,.ops os (opsE os.toList idx)::k,s.defers,s.roundOf⟩::rest,qyb (app H N) sets []⟩) (qyg os.toList (Nat.sub (lenN os.toList) sh) (Nat.sub (Nat.pow 2 sh) 1)) (z 0) 0,none⟩ sh TF slots sets B.O B.w0 (Array.replicate os.size false) β fr.tmps w1:=by
      have hTlen:fr.tmps.size=s.tmps.length:=by have:=qva hF.tmps; simpa using this
      refine ⟨by simp,by rw [hTlen,hFa.lenT],fun t ht => ?_,?_,fun n hn _=>hH'.bound n hn,fun i m hi => ?_,fun i _=>hlist i,hgl▸hG.glob⟩
      . rw [hFa.same t (fun o ho hd => ?_) β]
        . have:=qwe (glob:=fun _=>none) (a:=⟨fr.tmps,fr.defers⟩) hF.tmps (fun _ _ h=>by cases h) (.tmp t)
          have e:evS (fun _=>none) s.tmps (.tmp t)=getT s.tmps t:=by
           show optC (nth s.tmps t) qua (fun v=>v)=_
           unfold getT; cases nth s.tmps t <;> rfl
          rw [e] at this; exact this
        . obtain ⟨j,hj⟩:=List.mem_iff_getElem?.1 ho
          have:=ht j o hj hd
          rw [hlist] at this; cases this
      . have hgone:q0a (Array.replicate os.size false) slots=slots.map fun _=>SO.gone:=by
         unfold q0a
         apply List.map_congr_left
         intro p _
         rw [hlist]; rfl
        have hcu:qab ⟨c,os,H,fun T N sets=>.any fun z=>qwh (fun idx=>go ⟨⟨s.fn,T,.ops os (opsE os.toList idx)::k,s.defers,s.roundOf⟩::rest,qyb (app H N) sets []⟩) (qyg os.toList (Nat.sub (lenN os.toList) sh) (Nat.sub (Nat.pow 2 sh) 1)) (z 0) 0,none⟩ sh slots sets (Array.replicate os.size false)=H++q0a (Array.replicate os.size false) slots:=by
         unfold qab; rw [hlist]; rfl
        rw [hcu,hgone,← hP]
        have hbase:=hH'.toHeapRel0
        have hin:∀ (n:Nat) (e:SO),(H++slots.map fun _=>SO.gone)[n]? = some e->H[n]? = some e\/e=SO.gone:=by
         intro n e hn
         rcases Nat.lt_or_ge n H.length with h | h
         . rw [List.getElem?_append_left h] at hn; exact .inl hn
         . rw [List.getElem?_append_right h,List.getElem?_map] at hn
           right
           cases hx:slots[n - H.length]? with
           | none=>rw [hx] at hn; cases hn
           | some p=>rw [hx] at hn; exact (Option.some.inj hn).symm
        refine ⟨fun n e hn => ?_,fun n m e e' l l' hn hm ho ho' => ?_,fun n e l hn ho => ?_,hbase.keep⟩
        . rcases hin n e hn with h | rfl
          . exact hbase.entries n e h
          . trivial
        . rcases hin n e hn with h | rfl
          . rcases hin m e' hm with h' | rfl
            . exact hbase.sep n m e e' l l' h h' ho ho'
            . cases ho'
          . cases ho
        . rcases hin n e hn with h | rfl
          . exact hbase.fresh n e l h ho
          . cases ho
      . rw [hlist] at hi; cases hi
     have hun:unl (Array.replicate os.size false) os.size=os.size:=by
      rw [qot (s:=0) fun j hj=>by rw [Array.getD_eq_getD_getElem?,Array.getElem?_replicate,if_pos hj]; simp]
      omega
     obtain ⟨β2,ts2,w2,l2,t2,hle,hI2,hall,hst⟩:=qwv he hh ht hFa fr fr.defers k' (frs++B.cs) os.size _ _ β fr.tmps w1 hI hun
     replace hst:Steps c.P _ _:=hst
     rw [← hP] at hst
     have hslots:q0a l2 slots=slots.map (·.2):=by
      unfold q0a
      apply List.map_congr_left
      intro p hp
      obtain ⟨j,e⟩:=p
      by_cases hj:j<sh/\j<os.size
      . rw [hall j hj.1 hj.2]; rfl
      . exfalso
        have h1:=hFa.ge j e hp
        rw [List.length_take,Array.length_toList] at h1
        exact hj (by omega)
     have hin2:=jtc (os:=os) (os.size - sh) t2 l2
     have hmem:=q8x (os:=os) (os.size - sh) t2 l2 (Nat.sub (Nat.pow 2 sh) 1) hI2.size (fun j hj=>by
      show Nat.testBit (2 ^ sh - 1) j=_
      rw [Nat.testBit_two_pow_sub_one]
      by_cases hjs:j<sh
      . rw [hall j hjs hj]; simp [hjs]
      . rw [hI2.tail j (by omega)]; simp [hjs]) (fun j hj=>by
      show Nat.testBit (2 ^ sh - 1) j=_
      rw [Nat.testBit_two_pow_sub_one]
      by_cases hjs:j<sh
      . exfalso
        omega
      . simp [hjs])
     have hmem:Region.linearise.go .any os (os.size - sh) t2 l2 []∈qyg os.toList (Nat.sub (lenN os.toList) sh) (Nat.sub (Nat.pow 2 sh) 1):=by
      rw [qha,Array.length_toList]; exact hmem
     obtain ⟨zz,hzz⟩:=qmq (f:=fun idx=>go ⟨⟨s.fn,TF,.ops os (opsE os.toList idx)::k,s.defers,s.roundOf⟩::rest,qgc (H++slots.map (·.2)) sets⟩) _ 0 hmem
     have hfin:=hzz D S (hfin fun _=>zz)
     refine .of_steps hst ⟨_,.refl _ _,.inl ⟨_,hfin,⟨β2,_,frs,w2,rfl,⟨⟨hF.fn,?_,?_,SD.denL_mono hle hF.defers,rfl,hF.kind,hF.round.mono hle⟩,hR.mono hle⟩,?_,⟨hgl▸hI2.glob,Val.le_trans hG.fix hle⟩,Eq.trans (q5b (f:=fr) (f':=fr.atR ⟨ts2,fr.defers⟩ _) rfl) hl⟩⟩⟩
     ·
      refine qkg (show ts2.toList.length=_ by rw [Array.length_toList]; exact hI2.tsz) fun i v hv => ?_
      have hi:=hI2.tmps i fun j o ho _=>by
       have hj:=(List.getElem?_eq_some_iff.1 ho).1
       rw [List.length_take,Array.length_toList] at hj
       exact hall j (Nat.lt_of_lt_of_le hj (Nat.min_le_left _ _)) (Nat.lt_of_lt_of_le hj (Nat.min_le_right _ _))
      have hg:getT TF i=v:=by unfold getT; rw [qca,hv]; rfl
      have hil:i<ts2.size:=by rw [hI2.tsz]; exact (List.getElem?_eq_some_iff.1 hv).1
      rw [hg] at hi
      refine ⟨_,?_,hi⟩
      show ts2.toList[i]? = some (ts2.getD i undef)
      rw [Array.getElem?_toList]
      exact qog hil rfl
     . exact ⟨⟨rfl,qnq hin2⟩,hkk.mono hle⟩
     . refine ⟨?_,fun n hn => ?_⟩
       . have:=hI2.heap
         have hcu:qab ⟨c,os,H,fun T N sets=>.any fun z=>qwh (fun idx=>go ⟨⟨s.fn,T,.ops os (opsE os.toList idx)::k,s.defers,s.roundOf⟩::rest,qyb (app H N) sets []⟩) (qyg os.toList (Nat.sub (lenN os.toList) sh) (Nat.sub (Nat.pow 2 sh) 1)) (z 0) 0,none⟩ sh slots sets l2=qgc (H++q0a l2 slots) sets:=by
          by_cases h0:os.toList.take sh=[]
          . rw [hFa.none h0,qof]; rfl
          . have hpos:=List.length_pos_iff.2 h0
            have h1:(os.toList.take sh).length - 1<sh/\(os.toList.take sh).length - 1<os.size:=by
             rw [List.length_take,Array.length_toList] at hpos ⊢
             omega
            unfold qab
            rw [show l2.getD ((os.toList.take sh).length - 1) false=true from hall _ h1.1 h1.2]; rfl
         rw [hcu,hslots,← hP] at this; exact this
       . rw [q8d,List.length_append,List.length_map] at hn
         have hn':H.length<=n:=by omega
         refine hI2.free n hn' fun j e hj => ?_
         have:=(List.getElem?_eq_some_iff.1 hj).1
         have h2:n - H.length<slots.length:=this
         omega
end
end
noncomputable section
variable {α:Type}
theorem q2o {l:List Nat} {i m:Nat} (h:l[i]? = some m):atN l i=m:=by
 unfold atN; rw [qca,h]; rfl
theorem qmh (f:Nat->Bool):∀ l:List Nat,qxh f l=l.filter f
 | []=>rfl
 | a::l=>by
   show boolC (f a) (a::qxh f l) (qxh f l)=_
   rw [qmh f l]
   cases h:f a with
   | true=>rw [List.filter_cons_of_pos h]; rfl
   | false=>rw [List.filter_cons_of_neg (by rw [h]; simp)]; rfl
theorem qwp:∀ {l:List Nat},qrr l=true->l.Nodup
 | [],_=>List.nodup_nil
 | a::l,h=>by
   have h:boolC (memN a l) false (qrr l)=true:=h
   cases hm:memN a l with
   | true=>rw [hm] at h; cases h
   | false =>
     rw [hm] at h
     refine List.nodup_cons.2 ⟨fun hi => ?_,qwp h⟩
     rw [qpg hi] at hm; cases hm
theorem q2n:∀ {n:Nat} {l:List Nat},memN n l=true->n∈l
 | n,[],h=>by cases h
 | n,a::l,h=>by
   have h:boolC (Nat.beq a n) true (memN n l)=true:=h
   cases hb:Nat.beq a n with
   | true=>rw [Nat.eq_of_beq_eq_true hb]; simp
   | false=>rw [hb] at h; exact List.mem_cons_of_mem _ (q2n h)
theorem qyu:∀ {l r:List Nat},eqLN l r=true->l=r
 | [],[],_=>rfl
 | [],_::_,h=>by cases h
 | _::_,[],h=>by cases h
 | a::l,b::r,h=>by
   have h:boolC (Nat.beq a b) (eqLN l r) false=true:=h
   cases hb:Nat.beq a b with
   | true=>rw [hb] at h; rw [Nat.eq_of_beq_eq_true hb,qyu h]
   | false=>rw [hb] at h; cases h
theorem qfm (f:Nat->Bool) (j:Nat):∀ n:Nat,(qsl f n).testBit j=(decide (j<n) && f j)
 | 0=>by show (0:Nat).testBit j=_; simp
 | n+1=>by
   show (boolC (f n) (Nat.lor (qsl f n) (Nat.pow 2 n)) (qsl f n)).testBit j=_
   have ih:=qfm f j n
   cases hf:f n with
   | true =>
     show ((qsl f n) ||| 2 ^ n).testBit j=_
     rw [Nat.testBit_or,Nat.testBit_two_pow,ih]
     by_cases hj:n=j
     . subst hj; simp [hf]
     . have:decide (j<n+1)=decide (j<n):=decide_eq_decide.2 (by omega)
       rw [this]; simp [hj]
   | false =>
     show (qsl f n).testBit j=_
     rw [ih]
     by_cases hj:n=j
     . subst hj; simp [hf]
     . have:decide (j<n+1)=decide (j<n):=decide_eq_decide.2 (by omega)
       rw [this]
theorem qt0 (ms acc pi:List Nat) (p:Nat) (hp:p<pi.length):(msP ms acc pi)[p]? = some (qsl (fun q=>befP ms acc (atN pi p) (atN pi q)) p):=by
 unfold msP
 rw [qja,qha,qya,List.getElem?_map,List.getElem?_range' (by omega)]
 simp
theorem qoq {os:Array Oper}:∀ {pi:List Nat},(∀ i∈pi,i<os.size)->(opsE os.toList pi).length=pi.length/\∀ (p i:Nat),pi[p]? = some i->(opsE os.toList pi)[p]? = os[i]?
 | [],_=>⟨rfl,fun p i h=>by simp at h⟩
 | a::pi,h=>by
   have ha:=h a (by simp)
   obtain ⟨h1,h2⟩:=qoq (os:=os) (pi:=pi) fun i hi=>h i (by simp [hi])
   have e:opsE os.toList (a::pi)=os[a]::opsE os.toList pi:=by
    show optC (nth os.toList a) _ _=_
    rw [qca,Array.getElem?_toList,Array.getElem?_eq_getElem ha]; rfl
   rw [e]
   refine ⟨by simp [h1],fun p i hp => ?_⟩
   cases p with
   | zero=>simp at hp; subst hp; simp [ha]
   | succ p=>simpa using h2 p i (by simpa using hp)
theorem qt9 {pi acc done tl:List Nat} {i:Nat} {f:Nat->Bool} (hn:pi.Nodup) (hf:pi.filter f=acc) (ha:acc=done++i::tl) {p q j:Nat} (hp:pi[p]? = some i) (hq:pi[q]? = some j) (hqp:q<p) (hj:f j=true):j∈done:=by
 have hpl:=(List.getElem?_eq_some_iff.1 hp).1
 have e:pi=pi.take p++i::pi.drop (p+1):=by
  have:=List.take_append_drop p pi
  rw [List.drop_eq_getElem_cons hpl] at this
  rw [(List.getElem?_eq_some_iff.1 hp).2] at this
  exact this.symm
 have hfi:f i=true:=by
  have:i∈pi.filter f:=by rw [hf,ha]; simp
  exact (List.mem_filter.1 this).2
 have e2:pi.filter f=(pi.take p).filter f++i::(pi.drop (p+1)).filter f:=by
  conv=>lhs; rw [e]
  rw [List.filter_append,List.filter_cons_of_pos hfi]
 have hjt:j∈(pi.take p).filter f:=List.mem_filter.2 ⟨List.mem_iff_getElem?.2 ⟨q,by rw [List.getElem?_take,if_pos hqp]; exact hq⟩,hj⟩
 have h1:done++i::tl=(pi.take p).filter f++i::(pi.drop (p+1)).filter f:=by rw [← ha,← hf,e2]
 have hnf:(pi.filter f).Nodup:=hn.filter f
 have hd:i ∉ done:=by
  rw [hf,ha] at hnf
  have:=List.nodup_append.1 hnf
  intro hi
  exact this.2.2 i hi i (by simp) rfl
 have ht:i ∉ (pi.take p).filter f:=by
  rw [e2] at hnf
  have:=List.nodup_append.1 hnf
  intro hi
  exact this.2.2 i hi i (by simp) rfl
 have key:∀ (A B:List Nat) (X Y:List Nat),i ∉ A->i ∉ B->A++i::X=B++i::Y->A=B:=by
  intro A
  induction A with
  | nil =>
    intro B X Y _ hB h
    cases B with
    | nil=>rfl
    | cons b B=>simp only [List.nil_append,List.cons_append,List.cons.injEq] at h; exact absurd (by rw [h.1]; simp) hB
  | cons a A ih =>
    intro B X Y hA hB h
    cases B with
    | nil=>simp only [List.nil_append,List.cons_append,List.cons.injEq] at h; exact absurd (by rw [h.1]; simp) hA
    | cons b B =>
      simp only [List.cons_append,List.cons.injEq] at h
      rw [h.1,ih B X Y (fun hi=>hA (by simp [hi])) (fun hi=>hB (by simp [hi])) h.2]
 rw [key done _ tl _ hd ht h1]
 exact hjt
section
variable {x:CCtx} {pi:List Nat} {s:Nat} {T TF:List SV} {H0:List SO} {Fs:List Fct} {hs:Nat->List SO} {O:Nat->Prop} {w0:World}
def At (listed:Array Bool) (pi:List Nat) (p:Nat):Prop:=∃ i,pi[p]? = some i/\listed.getD i false=true
structure PInv (x:CCtx) (pi:List Nat) (s:Nat) (TF:List SV) (hs:Nat->List SO) (O:Nat->Prop) (w0:World) (listed:Array Bool) (β:Val) (ts:Array Value) (w:World):Prop where
 size:listed.size=x.os.size
 tsz:ts.size=TF.length
 tmps:∀ t,(∀ (p:Nat) (o:Oper),x.hd[p]? = some o->o.dst=some t->At listed pi p)->(getT TF t).den β=some (ts.getD t undef)
 heap:∃ c,c<=x.hd.length/\(∀ (p:Nat) (o:Oper),x.hd[p]? = some o->q4b x.c.P o=true->(At listed pi p↔p<c))/\HeapRel x.c.P O w0 β (hs c) w
 closed:∀ (i m:Nat),listed.getD i false=true->(qda x.os.toList [])[i]? = some m->∀ j,m.testBit j=true->listed.getD j false=true
 closedP:∀ (p m:Nat),At listed pi p->x.ms[p]? = some m->∀ q,m.testBit q=true->At listed pi q
 tail:∀ i,s<=i->listed.getD i false=false
 glob:GlobRel x.c.glob β
theorem qs6 (hpn:pi.Nodup) (hpo:∀ (p i:Nat),pi[p]? = some i->x.hd[p]? = x.os[i]?) (hlt:∀ (p m q:Nat),x.ms[p]? = some m->m.testBit q=true->q<p) (hh:qnd x.os x.hd x.hd x.ms 0=true) (hF:CFacts x x.hd x.ms 0 T H0 TF Fs hs)
  {listed:Array Bool} {β:Val} {ts:Array Value} {w:World} (hI:PInv x pi s TF hs O w0 listed β ts w) {i p:Nat} (hp:pi[p]? = some i) (hi:i∈Region.ready .any x.os listed) (his:i<s) (hmi:∀ q,((x.ms[p]?).getD 0).testBit q=true->At listed pi q) (fr:Frame) (ds:List Deferred) (rest:List Nat) (k:List Item) (cs:List Frame) :
  ∃ β' ts' w',β.le β'/\PInv x pi s TF hs O w0 (listed.setIfInBounds i true) β' ts' w'/\Steps x.c.P (lone (fr.atR ⟨ts,ds⟩ (.inRegion x.os (i::rest)::k)) cs w) (lone (fr.atR ⟨ts',ds⟩ (.inRegion x.os rest::k)) cs w'):=by
 have hr:=mem_ready.1 hi
 obtain ⟨hun,o,ho,hall⟩:=hr
 have hio:=(Array.getElem?_eq_some_iff.1 ho).1
 have hunf:listed.getD i false=false:=by rw [qia (by rw [hI.size]; exact hio)]; exact hun
 have hhd:x.hd[p]? = some o:=by rw [hpo p i hp]; exact ho
 have hilt:=(List.getElem?_eq_some_iff.1 hhd).1
 obtain ⟨f,hf⟩:∃ f,Fs[p]? = some f:=⟨_,List.getElem?_eq_getElem (by rw [hF.len]; exact hilt)⟩
 obtain ⟨hval,hnext,hmv,hbase,T',G,hgood,hT'l,hT',hGc⟩:=hF.good p o f hhd hf
 rw [Nat.zero_add] at hGc
 obtain ⟨hread,hdst⟩:=qzh _ _ _ _ _ hh p o hhd
 have hinj:∀ {q q' j:Nat},pi[q]? = some j->pi[q']? = some j->q=q':=fun h h'=>(List.getElem?_inj (List.getElem?_eq_some_iff.1 h).1 hpn).1 (h.trans h'.symm)
 have hnp:¬ At listed pi p:=by
  rintro ⟨j,hj,hl⟩
  rw [hp] at hj; cases hj
  rw [hunf] at hl; cases hl
 have hset:∀ j,(listed.setIfInBounds i true).getD j false=if i=j then true else listed.getD j false:=by
  intro j
  by_cases hij:i=j
  . subst hij; rw [if_pos rfl]; simp [Array.getD_eq_getD_getElem?,hI.size,hio]
  . rw [if_neg hij,getD_set_ne false hij]
 have hsetP:∀ q,At (listed.setIfInBounds i true) pi q↔q=p\/At listed pi q:=by
  intro q
  constructor
  . rintro ⟨j,hj,hl⟩
    rw [hset] at hl
    by_cases hij:i=j
    . subst hij; exact .inl (hinj hj hp)
    . rw [if_neg hij] at hl; exact .inr ⟨j,hj,hl⟩
  . rintro (rfl | ⟨j,hj,hl⟩)
    . exact ⟨i,hp,by rw [hset,if_pos rfl]⟩
    . refine ⟨j,hj,?_⟩
      rw [hset]; split
      . rfl
      . exact hl
 have hmj:∀ q,((x.ms[q]?).getD 0).testBit p=true->At listed pi q->False:=by
  intro q hb hl
  refine hnp (hI.closedP q ((x.ms[q]?).getD 0) hl ?_ p hb)
  cases hm:x.ms[q]? with
  | none=>rw [hm] at hb; simp at hb
  | some m=>rfl
 have hmi':∀ (m q:Nat),x.ms[p]? = some m->m.testBit q=true->At listed pi q:=fun m q hm hb=>hmi q (by rw [hm]; exact hb)
 have hagree:AgreeOn β T' ts (qpb x.os o):=by
  refine ⟨by rw [hI.tsz,hT'l,hF.lenT],fun t ht => ?_⟩
  rw [← hT' t (fun j o' hij ho' hd => ?_) β]
  . refine hI.tmps t fun j o' ho' hd => ?_
    obtain ⟨m,hm,hb⟩:=hread j o' t ho' hd ht
    exact hmi' m j hm hb
  . obtain ⟨m,hm,hb⟩:=hread j o' t ho' hd ht
    have:=hlt p m j hm hb
    omega
 obtain ⟨c,hcl,hcm,hH⟩:=hI.heap
 have hcase:(G=hs c/\hs c=hs p/\qvh x.c.P p ((x.ms[p]?).getD 0) x.hd x.ms 0=true)\/(q4b x.c.P o=false/\G=mapN (q2d x.hid) x.H):=by
  rcases hGc with ⟨hcmp,hGi⟩ | h
  . left
    have hspec:=qti _ _ _ hcmp
    have hci:hs c=hs p:=by
     rcases Nat.le_total c p with hle | hle
     . have:=qeg hF (a:=c) (p - c) (by omega) fun j o' h1 h2 ho'=>by
        cases hmo:q4b x.c.P o' with
        | false=>rfl
        | true =>
          exfalso
          have h3:=(hspec j o' ho' hmo (by omega)).1 (by omega)
          rw [Nat.zero_add] at h3
          have:=(hcm j o' ho' hmo).1 (hmi j h3)
          omega
       rw [show c+(p - c)=p from by omega] at this; exact this
     . have:=qeg hF (a:=p) (c - p) (by omega) fun j o' h1 h2 ho'=>by
        cases hmo:q4b x.c.P o' with
        | false=>rfl
        | true =>
          exfalso
          have hl:=(hcm j o' ho' hmo).2 (by omega)
          by_cases hij:j=p
          . subst hij; exact hnp hl
          . have h3:=(hspec j o' ho' hmo (by omega)).2 (by omega)
            exact hmj j h3 hl
       rw [show p+(c - p)=c from by omega] at this; exact this.symm
    exact ⟨hGi.trans hci.symm,hci,hcmp⟩
  . exact .inr h
 have hvisG:∀ (n:Nat) (e:SO),G[n]? = some e->e=SO.gone\/(hs c)[n]? = some e:=by
  intro n e hn
  rcases hcase with ⟨rfl,_⟩ | ⟨_,rfl⟩
  . exact .inr hn
  . rw [qja,List.getElem?_map] at hn
    cases hx:x.H[n]? with
    | none=>rw [hx] at hn; cases hn
    | some e0 =>
      rw [hx] at hn
      have hn:q2d x.hid e0=e:=Option.some.inj hn
      unfold q2d at hn
      cases hhe:x.hid e0 with
      | true=>rw [hhe] at hn; exact .inl hn.symm
      | false =>
        rw [hhe] at hn
        have hn:e0=e:=hn
        subst hn
        exact .inr (hF.stable c hcl n e0 hx hhe)
 have hG0:HeapRel0 x.c.P O w0 β G w:=hH.toHeapRel0.less fun n e hn=>(hvisG n e hn).symm
 have hown:∀ (n:Nat) (e:SO),G[n]? = some e->e.owned=true->(hs c)[n]? = some e:=by
  intro n e hn ho
  rcases hvisG n e hn with rfl | h
  . cases ho
  . exact h
 have hb0:f.news=[]/\f.sets=[]\/(hs c=hs p):=by
  rcases hcase with ⟨_,h,_⟩ | ⟨h,_⟩
  . exact .inr h
  . exact .inl ⟨(hmv h).2,(hmv h).1⟩
 have hstep:∃ y w' β',f.val.den β'=some y/\β.le β'/\HeapRel x.c.P O w0 β' (qyb (hs c) f.sets f.news) w' /\
   Steps x.c.P (lone (fr.atR ⟨ts,ds⟩ (.inRegion x.os (i::rest)::k)) cs w) (lone (fr.atR (Act.put ⟨ts,ds⟩ o.dst y) (.inRegion x.os rest::k)) cs w'):=by
  cases f with
  | skip =>
    have hw:=hgood β ts hagree
    refine ⟨undef,w,β,by simp [Fct.val,qua,SV.den,SV.denL,undef],Val.le_refl β,hH,.one ?_⟩
    have:=stepR_op_skip (P:=x.c.P) (b:=fr) (a:=⟨ts,ds⟩) (k:=k) (cs:=cs) (w:=w) (ops:=x.os) (i:=i) (rest:=rest) (by rw [ho]; exact hw)
    rw [ho] at this; exact this
  | run v N b q =>
    obtain ⟨hw,hrun⟩:=hgood β ts hagree
    have hb:=hbase v N b q rfl
    have hfree:Free β b N:=by
     rcases hb0 with ⟨h1,_⟩ | h
     . have h1:N=[]:=h1
       subst h1
       intro j hj; simp at hj
     . intro j _
       exact hH.bound _ (by rw [h,hb]; omega)
    obtain ⟨y,w',β',hv,hE,hso,hst⟩:=hrun O w0 w hG0 hI.glob hfree (fr.atR ⟨ts,ds⟩ (.inRegion x.os (i::rest)::k)) cs i rest k rfl rfl ho rfl
    rw [Frame.finish_atR,ho] at hst
    refine ⟨y,w',β',hv,hE.le,?_,hst⟩
    have hso':∀ n e,(n,e)∈q->∃ e0,(hs c)[n]? = some e0/\e0.owned=true:=fun n e hn=>by
     obtain ⟨e0,h1,h2⟩:=hso n e hn
     exact ⟨e0,hown n e0 h1 h2,h2⟩
    rcases hb0 with ⟨h1,_⟩ | h
    . have h1:N=[]:=h1
      subst h1
      exact hH.apply (hE.rebase (b:=(hs c).length)) hso'
    . rw [hb,← h] at hE
      exact hH.apply hE hso'
  | touch v nm =>
    obtain ⟨hw,hrun⟩:=hgood β ts hagree
    obtain ⟨y,w',e,hv,he,heo,hE,hst⟩:=hrun O w0 w hG0 hI.glob (fr.atR ⟨ts,ds⟩ (.inRegion x.os (i::rest)::k)) cs i rest k rfl rfl ho rfl
    rw [Frame.finish_atR,ho] at hst
    refine ⟨y,w',β,hv,Val.le_refl β,?_,hst⟩
    have h1:=hown nm e he heo
    have:=hH.apply (hE.rebase (b:=(hs c).length)) (by intro n e' hn; simp at hn; obtain ⟨rfl,rfl⟩:=hn; exact ⟨e',h1,heo⟩)
    rw [qhc,List.append_nil,qqi h1] at this
    exact this
 obtain ⟨y,w',β',hv,hle,hH',hst⟩:=hstep
 rw [qds] at hst
 refine ⟨β',_,w',hle,⟨by simp [hI.size],by rw [qpj]; exact hI.tsz,?_,?_,?_,?_,?_,hI.glob.mono hle⟩,hst⟩
 ·
  intro t ht
  rw [qlh]
  by_cases hd:o.dst=some t
  . by_cases hlt:t<ts.size
    . rw [if_pos ⟨hd,hlt⟩,hval t hd (by rw [← hF.lenT,← hI.tsz]; exact hlt) (fun j o' hij ho'=>hdst t hd j o' hij ho')]
      exact hv
    . rw [if_neg (fun h=>hlt h.2)]
      have h1:nth TF t=none:=by rw [qca,List.getElem?_eq_none]; rw [← hI.tsz]; exact Nat.not_lt.1 hlt
      have h2:ts.getD t undef=undef:=by rw [Array.getD_eq_getD_getElem?,Array.getElem?_eq_none (Nat.not_lt.1 hlt)]; rfl
      rw [h2]; unfold getT; rw [h1]; simp [qua,SV.den,SV.denL,undef]
  . rw [if_neg (fun h=>hd h.1)]
    refine SV.den_mono hle _ (hI.tmps t fun j o' ho' hd' => ?_)
    rcases (hsetP j).1 (ht j o' ho' hd') with rfl | h
    . rw [hhd] at ho'; cases ho'; exact absurd hd' hd
    . exact h
 ·
  cases hmo:q4b x.c.P o with
  | false =>
    obtain ⟨h1,h2⟩:=hmv hmo
    rw [h1,h2] at hH'
    refine ⟨c,hcl,fun j o' ho' hm => ?_,hH'⟩
    have hij:j≠p:=by
     intro h; subst h
     rw [hhd] at ho'; cases ho'
     rw [hmo] at hm; cases hm
    rw [hsetP]
    constructor
    . rintro (h | h)
      . exact absurd h hij
      . exact (hcm j o' ho' hm).1 h
    . exact fun h=>.inr ((hcm j o' ho' hm).2 h)
  | true =>
    rcases hcase with ⟨_,hci,hcmp⟩ | ⟨h,_⟩
    . have hspec:=qti _ _ _ hcmp
      refine ⟨p+1,hilt,fun j o' ho' hm => ?_,by rw [hnext,← hci]; exact hH'⟩
      rw [hsetP]
      by_cases hij:j=p
      . subst hij
        exact ⟨fun _=>by omega,fun _=>.inl rfl⟩
      . rcases Nat.lt_or_ge j p with hlt | hge
        . have h3:=(hspec j o' ho' hm (by omega)).1 (by omega)
          rw [Nat.zero_add] at h3
          exact ⟨fun _=>by omega,fun _=>.inr (hmi j h3)⟩
        . have h3:=(hspec j o' ho' hm (by omega)).2 (by omega)
          refine ⟨fun h => ?_,fun h=>by omega⟩
          rcases h with h | h
          . exact absurd h hij
          . exact (hmj j h3 h).elim
    . rw [hmo] at h; cases h
 . intro j m hj hm l hl
   rw [hset] at hj ⊢
   split
   . rfl
   . by_cases hij:i=j
     . subst hij; exact qrb hI.closed hi hm hl
     . rw [if_neg hij] at hj; exact hI.closed j m hj hm l hl
 . intro j m hj hm l hl
   rw [hsetP] at hj ⊢
   rcases hj with rfl | hj
   . exact .inr (hmi' m l hm hl)
   . exact .inr (hI.closedP j m hj hm l hl)
 . intro j hj
   rw [hset,if_neg (by omega)]; exact hI.tail j hj
end
section
variable {D:SV->List SO->Prop} {S:SS->Prop}
inductive MOrd (ms:List Nat):List Nat->List Nat->Prop
 | nil:MOrd ms [] []
 | cons {m:Nat} {todo r:List Nat} (hm:m∈qhj ms todo) (h:MOrd ms (qtl m todo) r):MOrd ms todo (m::r)
theorem j8d {f:List Nat->Tree} {ms:List Nat}:∀ (n:Nat) (todo acc r:List Nat),(movT f ms n todo acc).Ob D S->r.length=n->MOrd ms todo r->(f (acc++r)).Ob D S:=by
 intro n
 induction n with
 | zero =>
   intro todo acc r h hr _
   obtain rfl:=List.length_eq_zero_iff.1 hr
   rw [List.append_nil]; exact h
 | succ n ih =>
   intro todo acc r h hr ho
   cases ho with
   | nil=>cases hr
   | cons hm ho =>
     rename_i m r
     have hin:[m]∈mapN (fun m=>[m]) (qhj ms todo):=by rw [qja]; exact List.mem_map.2 ⟨m,hm,rfl⟩
     obtain ⟨z,hz⟩:=qmq (f:=jnc fun m=>movT f ms n (qtl m todo) (app acc [m])) _ 0 hin
     have h1:=hz D S (h fun _=>z)
     have h2:=ih (qtl m todo) (app acc [m]) r h1 (by simpa using hr) ho
     rwa [q1a,List.append_assoc] at h2
end
section
variable {os:Array Oper} {s:Nat}
theorem qgs {P:Program} {Inv:Array Bool->Val->Array Value->World->Prop} {acc:List Nat} {mv:Nat->Bool} (he:qib os.toList 0=true) (ht:q4e (qhb (qda os.toList []) s) s=true)
  (fr:Frame) (ds:List Deferred) (k:List Item) (cs:List Frame)
  (hsz:∀ {l β ts w},Inv l β ts w->l.size=os.size) (htl:∀ {l β ts w},Inv l β ts w->∀ i,s<=i->l.getD i false=false)
  (hcl:∀ {l β ts w},Inv l β ts w->∀ (i m:Nat),l.getD i false=true->(qda os.toList [])[i]? = some m->∀ j,m.testBit j=true->l.getD j false=true)
  (hturn:∀ {l:Array Bool} {β ts w} {i:Nat},Inv l β ts w->i∈Region.ready .any os l->i<s->(mv i=true->∃ done tl,acc=done++i::tl/\∀ j∈done,l.getD j false=true)->∀ rest:List Nat,∃ β' ts' w',β.le β'/\Inv (l.setIfInBounds i true) β' ts' w' /\
   Steps P (lone (fr.atR ⟨ts,ds⟩ (.inRegion os (i::rest)::k)) cs w) (lone (fr.atR ⟨ts',ds⟩ (.inRegion os rest::k)) cs w')) :
  ∀ (fuel t:Nat) (listed:Array Bool) (β:Val) (ts:Array Value) (w:World) (done:List Nat),Inv listed β ts w->unl listed os.size<=fuel->(∀ j∈done,listed.getD j false=true)->done++((Region.linearise.go .any os fuel t listed []).filter fun i=>mv i && decide (i<s))=acc ->
  ∃ β' ts' w' listed',β.le β'/\Inv listed' β' ts' w'/\(∀ j,j<s->j<os.size->listed'.getD j false=true) /\
    Steps P (lone (fr.atR ⟨ts,ds⟩ (.inRegion os (Region.linearise.go .any os fuel t listed [])::k)) cs w) (lone (fr.atR ⟨ts',ds⟩ (.inRegion os (List.range' s (os.size - s))::k)) cs w'):=by
 have htm:∀ (i m:Nat),s<=i->(qda os.toList [])[i]? = some m->∀ j,j<i->m.testBit j=true:=by
  intro i m hi hm j hj
  rw [qdd] at ht
  have:=qmk _ _ ht (i - s) m (by rw [List.getElem?_drop,show s+(i - s)=i from by omega]; exact hm)
  rw [show s+(i - s)=i from by omega] at this
  exact qnf this hj
 intro fuel
 induction fuel with
 | zero =>
   intro t listed β ts w done hI hf _ _
   have hall:∀ j,j<os.size->listed.getD j true=true:=by
    intro j hj
    cases h:listed.getD j true with
    | true=>rfl
    | false=>have:=q7k hj h; omega
   have hs:os.size<=s:=by
    rcases Nat.lt_or_ge s os.size with h | h
    . have h1:=htl hI s (Nat.le_refl _)
      rw [qia (by rw [(hsz hI)]; exact h),hall s h] at h1; cases h1
    . exact h
   refine ⟨β,ts,w,listed,Val.le_refl β,hI,fun j _ hj=>by rw [qia (by rw [(hsz hI)]; exact hj)]; exact hall j hj,?_⟩
   rw [show os.size - s=0 from by omega]
   exact .refl _ _
 | succ fuel ih =>
   intro t listed β ts w done hI hf hdone hacc
   by_cases hall:∀ j,j<s->j<os.size->listed.getD j false=true
   . refine ⟨β,ts,w,listed,Val.le_refl β,hI,hall,?_⟩
     rcases Nat.lt_or_ge os.size s with h | h
     . rw [show os.size - s=0 from by omega]
       rw [qoj]
       . exact .refl _ _
       . apply List.eq_nil_iff_forall_not_mem.2
         intro j hj
         rw [mem_ready] at hj
         obtain ⟨h1,o,ho,_⟩:=hj
         have hlt:=(Array.getElem?_eq_some_iff.1 ho).1
         rw [← qia (by rw [(hsz hI)]; exact hlt),hall j (by omega) hlt] at h1
         cases h1
     . have hdec:∀ j,j<os.size->listed.getD j true=decide (j<s):=by
        intro j hj
        rw [← qia (by rw [(hsz hI)]; exact hj)]
        by_cases hjs:j<s
        . rw [hall j hjs hj]; simp [hjs]
        . rw [htl hI j (by omega)]; simp [hjs]
       rw [qdm he htm (os.size - s) (fuel+1) t s listed (hsz hI) (Nat.le_refl _) (by omega) hdec ?_]
       . exact .refl _ _
       . exact Nat.le_trans (q4x (s:=s) (n:=os.size) (fun j h1 h2=>by rw [hdec j h2]; simp; omega) _ (by omega)) hf
   ·
    have hex:∃ i,i<s/\i<os.size/\listed.getD i true=false/\∀ j,j<i->listed.getD j false=true:=by
     have hgen:∀ n,(∃ i,i<n/\i<s/\i<os.size/\listed.getD i true=false/\∀ j,j<i->listed.getD j false=true)\/(∀ j,j<n->j<s->j<os.size->listed.getD j false=true):=by
      intro n
      induction n with
      | zero=>exact .inr fun j hj=>by omega
      | succ n ih2 =>
        rcases ih2 with ⟨i,h1,h2⟩ | h
        . exact .inl ⟨i,by omega,h2⟩
        . by_cases hn:n<s/\n<os.size/\listed.getD n false=false
          . refine .inl ⟨n,by omega,hn.1,hn.2.1,?_,fun j hj=>h j hj (by omega) (by omega)⟩
            rw [← qia (by rw [(hsz hI)]; exact hn.2.1)]; exact hn.2.2
          . refine .inr fun j hj h1 h2 => ?_
            by_cases hjn:j=n
            . subst hjn
              cases hx:listed.getD j false with
              | true=>rfl
              | false=>exact absurd ⟨h1,h2,hx⟩ hn
            . exact h j (by omega) h1 h2
     rcases hgen s with ⟨i,_,h⟩ | h
     . exact ⟨i,h⟩
     . exact absurd (fun j h1 h2=>h j h1 h1 h2) hall
    obtain ⟨i0,h1,h2,h3,h4⟩:=hex
    have hin:=qxe he h2 h3 h4
    obtain ⟨i,hi,t',heq⟩:=qqg (List.ne_nil_of_mem hin) fuel t
    have hio:i<os.size:=by
     obtain ⟨_,o,ho,_⟩:=mem_ready.1 hi
     exact (Array.getElem?_eq_some_iff.1 ho).1
    have his:i<s:=by
     rcases Nat.lt_or_ge i s with h | h
     . exact h
     . exfalso
       obtain ⟨_,hml,_⟩:=qhd os.toList []
       have hlt:i<(qda os.toList []).length:=by rw [hml]; simpa using hio
       have:=qrb (hcl hI) hi (List.getElem?_eq_getElem hlt) (htm i _ h (List.getElem?_eq_getElem hlt) i0 (by omega))
       rw [qia (by rw [(hsz hI)]; exact h2),h3] at this; cases this
    rw [heq] at hacc
    obtain ⟨β1,ts1,w1,hle,hI1,hst⟩:=hturn hI hi his (fun hm=>by
     rw [List.filter_cons_of_pos (by simp [hm,his])] at hacc
     exact ⟨done,_,hacc.symm,hdone⟩) (Region.linearise.go .any os fuel t' (listed.setIfInBounds i true) [])
    have hu:=q7i (mem_ready.1 hi).1 os.size
    rw [if_pos hio] at hu
    have hset:∀ j,(listed.setIfInBounds i true).getD j false=if i=j then true else listed.getD j false:=by
     intro j
     by_cases hij:i=j
     . subst hij; rw [if_pos rfl]; simp [Array.getD_eq_getD_getElem?,hsz hI,hio]
     . rw [if_neg hij,getD_set_ne false hij]
    obtain ⟨β2,ts2,w2,l2,hle2,hI2,hall2,hst2⟩:=ih t' (listed.setIfInBounds i true) β1 ts1 w1 (if mv i=true then done++[i] else done) hI1 (by omega) (fun j hj=>by
     rw [hset]
     split
     . rfl
     . rename_i hij
       split at hj
       . rcases List.mem_append.1 hj with hj | hj
         . exact hdone j hj
         . exact absurd (List.mem_singleton.1 hj).symm hij
       . exact hdone j hj) (by
     split
     . rename_i hm
       rw [List.filter_cons_of_pos (by simp [hm,his])] at hacc
       rw [List.append_assoc]; exact hacc
     . rename_i hm
       rw [List.filter_cons_of_neg (by simp [hm])] at hacc
       exact hacc)
    exact ⟨β2,ts2,w2,l2,Val.le_trans hle hle2,hI2,hall2,by rw [heq]; exact hst.trans hst2⟩
end
section
variable {os:Array Oper} {s:Nat} {mv:Nat->Bool}
def q2e (mv:Nat->Bool) (s:Nat) (listed:Array Bool):List Nat:=(List.range s).filter fun i=>mv i && !(listed.getD i false)
theorem q9x (m:Nat) (l:List Nat):qtl m l=l.filter fun j => !(Nat.beq j m):=by
 unfold qtl
 rw [qmh]
 congr 1
 funext j
 cases Nat.beq j m <;> rfl
theorem qs3 {ms todo:List Nat} {m:Nat} (h:m∈todo) (hb:∀ j∈todo,bitN (atN ms m) j=false):m∈qhj ms todo:=by
 unfold qhj
 rw [qmh]
 refine List.mem_filter.2 ⟨h,allN_iff.2 fun j hj => ?_⟩
 rw [hb j hj]; rfl
theorem qt6 {ms todo:List Nat} {m:Nat} (h:m∈qhj ms todo):m∈todo:=by
 unfold qhj at h
 rw [qmh] at h
 exact (List.mem_filter.1 h).1
theorem qxz {ms todo r:List Nat} (h:MOrd ms todo r):todo.Nodup->r.length=todo.length:=by
 induction h with
 | nil=>intro _; rfl
 | cons hm h ih =>
   rename_i m todo r
   intro hn
   have hmt:=qt6 hm
   rw [q9x] at ih
   have e:(todo.filter fun j => !(Nat.beq j m))=todo.erase m:=by
    rw [hn.erase_eq_filter]
    congr 1
    funext j
    show (!Nat.beq j m) = !(j == m)
    have hb:(j == m)=Nat.beq j m:=by
     by_cases h:j=m
     . subst h; simp
     . have hb:Nat.beq j m=false:=by
        cases hb:Nat.beq j m with
        | false=>rfl
        | true=>exact absurd (Nat.eq_of_beq_eq_true hb) h
       rw [hb]; simp [h]
    rw [hb]
   rw [e] at ih
   have h1:=ih (hn.erase m)
   have h2:=List.length_erase_of_mem hmt
   have h3:0<todo.length:=List.length_pos_of_mem hmt
   rw [List.length_cons]; omega
theorem j9d (he:qib os.toList 0=true) (hmv:∀ i,mv i=true->i<os.size):∀ (fuel t:Nat) (listed:Array Bool),listed.size=os.size->unl listed os.size<=fuel ->
  (∀ (i m:Nat),listed.getD i false=true->(qda os.toList [])[i]? = some m->∀ j,m.testBit j=true->listed.getD j false=true) ->
  MOrd (qda os.toList []) (q2e mv s listed) ((Region.linearise.go .any os fuel t listed []).filter fun i=>mv i && decide (i<s)):=by
 intro fuel
 induction fuel with
 | zero =>
   intro t listed hsz hf hcl
   have hall:∀ j,j<os.size->listed.getD j true=true:=by
    intro j hj
    cases h:listed.getD j true with
    | true=>rfl
    | false=>have:=q7k hj h; omega
   have:q2e mv s listed=[]:=by
    unfold q2e
    refine List.filter_eq_nil_iff.2 fun i hi => ?_
    intro hc
    obtain ⟨h1,h2⟩:=Bool.and_eq_true_iff.1 hc
    have:=hall i (hmv i h1)
    rw [← qia (by rw [hsz]; exact hmv i h1)] at this
    rw [this] at h2; cases h2
   rw [this]
   exact .nil
 | succ fuel ih =>
   intro t listed hsz hf hcl
   by_cases hne:Region.ready .any os listed=[]
   . rw [qoj hne]
     have hleast:∀ j,j<os.size->listed.getD j false=true:=by
      intro j
      induction j using Nat.strongRecOn with
      | ind j ihj =>
        intro hj
        cases hl:listed.getD j false with
        | true=>rfl
        | false =>
          have:=qxe he hj (by rw [← qia (by rw [hsz]; exact hj)]; exact hl) fun k hk=>ihj k hk (by omega)
          rw [hne] at this; cases this
     have:q2e mv s listed=[]:=by
      unfold q2e
      refine List.filter_eq_nil_iff.2 fun i hi => ?_
      intro hc
      obtain ⟨h1,h2⟩:=Bool.and_eq_true_iff.1 hc
      rw [hleast i (hmv i h1)] at h2; cases h2
     rw [this]
     exact .nil
   . obtain ⟨i,hi,t',heq⟩:=qqg hne fuel t
     have hun:=(mem_ready.1 hi).1
     have hio:i<os.size:=by
      obtain ⟨_,o,ho,_⟩:=mem_ready.1 hi
      exact (Array.getElem?_eq_some_iff.1 ho).1
     have hunf:listed.getD i false=false:=by rw [qia (by rw [hsz]; exact hio)]; exact hun
     have hset:∀ j,(listed.setIfInBounds i true).getD j false=if i=j then true else listed.getD j false:=by
      intro j
      by_cases hij:i=j
      . subst hij; rw [if_pos rfl]; simp [Array.getD_eq_getD_getElem?,hsz,hio]
      . rw [if_neg hij,getD_set_ne false hij]
     have hu:=q7i hun os.size
     rw [if_pos hio] at hu
     have:=ih t' (listed.setIfInBounds i true) (by simp [hsz]) (by omega) (fun j m hj hm l hl=>by
      rw [hset] at hj ⊢
      split
      . rfl
      . by_cases hij:i=j
        . subst hij; exact qrb hcl hi hm hl
        . rw [if_neg hij] at hj; exact hcl j m hj hm l hl)
     rw [heq]
     by_cases hc:mv i=true/\i<s
     . rw [List.filter_cons_of_pos (by simp [hc.1,hc.2])]
       have ht:i∈q2e mv s listed:=List.mem_filter.2 ⟨List.mem_range.2 hc.2,by rw [hc.1,hunf]; rfl⟩
       refine .cons (qs3 ht fun j hj => ?_) ?_
       . cases hb:bitN (atN (qda os.toList []) i) j with
         | false=>rfl
         | true =>
           exfalso
           obtain ⟨_,h2,_⟩:=qhd os.toList []
           have hil:i<(qda os.toList []).length:=by rw [h2]; simpa using hio
           have hm:=List.getElem?_eq_getElem hil
           rw [q2o hm] at hb
           have hl:=qrb hcl hi hm hb
           have:=(List.mem_filter.1 hj).2
           rw [hl] at this; simp at this
       . have e:qtl i (q2e mv s listed)=q2e mv s (listed.setIfInBounds i true):=by
          rw [q9x]
          unfold q2e
          rw [List.filter_filter]
          refine List.filter_congr fun j _ => ?_
          rw [hset]
          by_cases hij:i=j
          . subst hij; simp
          . have:Nat.beq j i=false:=by
             cases hb:Nat.beq j i with
             | false=>rfl
             | true=>exact absurd (Nat.eq_of_beq_eq_true hb).symm hij
            rw [this,if_neg hij]; simp
         rw [e]; exact this
     . rw [List.filter_cons_of_neg (by simp; intro h1; have:¬ i<s:=fun h2=>hc ⟨h1,h2⟩; omega)]
       have e:q2e mv s (listed.setIfInBounds i true)=q2e mv s listed:=by
        unfold q2e
        refine List.filter_congr fun j hj => ?_
        rw [hset]
        by_cases hij:i=j
        . subst hij
          have h1:i<s:=List.mem_range.1 hj
          have h2:mv i=false:=by
           cases hm:mv i with
           | false=>rfl
           | true=>exact absurd ⟨hm,h1⟩ hc
          rw [h2]; simp
        . rw [if_neg hij]
       rw [← e]; exact this
end
section
variable {c:Cfg} {B:Base} {go:SS->Tree} {D:SV->List SO->Prop} {S:SS->Prop}
theorem qyz (hc:CfgOK c) (hP:B.P=c.P) (hgl:B.glob=c.glob) {id:Nat} {os:Array Oper} {k:List SItem} {s:SF} {rest:List SF} {H:List SO} {β:Val} {fr:Frame} {frs:List Frame} {w:World} (hF:FrameRel β s fr) (hR:FramesRel β rest frs) (hH:HeapRel B.P B.O B.w0 β H w) (hG:BRel B β)
  (hl:((fr::frs).getLast?).map (·.fn)=some B.fn0) (htd:s.todo=.code (.region id os true)::k) {sh:Nat} {hid:SO->Bool} (hob:(qq2 hid os sh (qda os.toList []) k s rest c H go).Ob D S):After B go D S (lone fr (frs++B.cs) w):=by
 have htd':=hF.todo
 rw [htd] at htd'
 cases hft:fr.todo with
 | nil=>rw [hft] at htd'; exact htd'.elim
 | cons y k' =>
   rw [hft] at htd'
   obtain ⟨hxy,hkk⟩:=htd'
   cases y <;> first | exact hxy.elim | skip
   rename_i cd
   have hcd:cd=.region id os true:=hxy
   subst hcd
   have hstep:step B.P (lone fr (frs++B.cs) w)=.next (lone (fr.atR ⟨fr.tmps,fr.defers⟩ (.inRegion os (Region.linearise.go .any os os.size (w.tape w.drawn (.order fr.fn id)) (Array.replicate os.size false) [])::k')) (frs++B.cs) { w with drawn:=w.drawn+1 }):=by
    conv=>lhs; rw [qqb hF.mode,hft]
    rw [stepR_region_draw]
    simp only [Region.schedule,hP,hc.prog.mixed,Bool.true_or,if_true,Region.linearise]
   refine .step hstep ?_
   have hH':HeapRel B.P B.O B.w0 β H { w with drawn:=w.drawn+1 }:=hH.sameHeap rfl rfl rfl rfl
   generalize ({ w with drawn:=w.drawn+1 }:World)=w1 at hH'
   generalize w.tape w.drawn (.order fr.fn id)=tp
   have hlist:∀ j,(Array.replicate os.size false).getD j false=false:=by
    intro j
    rw [Array.getD_eq_getD_getElem?,Array.getElem?_replicate]
    split <;> rfl
   have hun:∀ k,unl (Array.replicate os.size false) k<=k:=by
    intro k
    induction k with
    | zero=>exact Nat.le_refl _
    | succ k ih =>
      show unl _ k+_<=k+1
      split <;> omega
   let mv:Nat->Bool:=fun i=>optC (nth os.toList i) false (q4b c.P)
   have hmv:∀ i,mv i=true->i<os.size:=fun i hi=>by
    have hi:optC (nth os.toList i) false (q4b c.P)=true:=hi
    rw [qca,Array.getElem?_toList] at hi
    by_cases h:i<os.size
    . exact h
    . rw [Array.getElem?_eq_none (by omega)] at hi; cases hi
   unfold qq2 at hob
   by_cases he:qib os.toList 0=true
   . rw [he,boolC_true] at hob
     have hmo:=j9d (s:=sh) (mv:=mv) he hmv os.size tp (Array.replicate os.size false) (by simp) (hun _) (fun i m hi=>by rw [hlist] at hi; cases hi)
     have htodo:q2e mv sh (Array.replicate os.size false)=qyk c.P os sh:=by
      unfold qyk q2e
      rw [qmh,qya,List.range_eq_range']
      refine List.filter_congr fun i _ => ?_
      rw [hlist]; simp [mv]
     rw [htodo] at hmo
     have hnd:(qyk c.P os sh).Nodup:=by
      rw [← htodo]
      exact List.nodup_range.filter _
     have hlen:=qxz hmo hnd
     have hchain:=j8d _ _ _ _ hob (by rw [qha]; exact hlen) hmo
     rw [List.nil_append] at hchain
     generalize hacc:((Region.linearise.go .any os os.size tp (Array.replicate os.size false) []).filter fun i=>mv i && decide (i<sh))=acc at hchain hmo
     have hchain:(q6w hid os sh (qda os.toList []) acc k s rest c H go).Ob D S:=hchain
     unfold q6w at hchain
     generalize hpi:piM (qda os.toList []) acc sh=pi at hchain
     cases hok:okQ os (opsE os.toList pi) sh (qda os.toList []) acc pi (msP (qda os.toList []) acc pi) with
     | false=>rw [hok] at hchain; exact hchain.elim
     | true =>
       rw [hok,boolC_true] at hchain
       obtain ⟨_,hok⟩:=q2a (show boolC (qib os.toList 0) (boolC (qnd os (opsE os.toList pi) (opsE os.toList pi) (msP (qda os.toList []) acc pi) 0) (boolC (q4e (qhb (qda os.toList []) sh) sh) (boolC (jmc sh acc pi) (allN (fun i=>boolC (Nat.blt i sh) (Nat.blt i (lenN os.toList)) false) pi) false) false) false) false=true from hok)
       obtain ⟨hh,hok⟩:=q2a hok
       obtain ⟨ht,hok⟩:=q2a hok
       obtain ⟨hpm,hol⟩:=q2a hok
       obtain ⟨hp1,hpm⟩:=q2a (show boolC (Nat.beq (lenN pi) sh) (boolC (qrr pi) (boolC (allN (fun i=>memN i pi) (qra sh 0)) (eqLN (qxh (fun i=>memN i acc) pi) acc) false) false) false=true from hpm)
       obtain ⟨hp2,hpm⟩:=q2a hpm
       obtain ⟨hp3,hp4⟩:=q2a hpm
       have hpl:pi.length=sh:=by rw [← qha]; exact Nat.eq_of_beq_eq_true hp1
       have hpn:=qwp hp2
       have hpa:∀ i,i<sh->i∈pi:=fun i hi=>q2n (allN_iff.1 hp3 i (by rw [qya,← List.range_eq_range']; exact List.mem_range.2 hi))
       have hpf:pi.filter (fun i=>memN i acc)=acc:=by rw [← qmh]; exact qyu hp4
       have hpin:∀ i∈pi,i<sh:=fun i hi=>Nat.le_of_ble_eq_true (q2a (allN_iff.1 hol i hi)).1
       have hpos:∀ i∈pi,i<os.size:=fun i hi=>by
        have:=Nat.le_of_ble_eq_true (q2a (allN_iff.1 hol i hi)).2
        rw [qha,Array.length_toList] at this
        exact this
       have hols:(opsE os.toList pi).length=sh:=(qoq (os:=os) hpos).1.trans hpl
       obtain ⟨_,hget⟩:=qoq (os:=os) hpos
       generalize hxe:(⟨hid,c,os,H,opsE os.toList pi,msP (qda os.toList []) acc pi,fun T H'=>go ⟨⟨s.fn,T,.ops os (qhb os.toList sh)::k,s.defers,s.roundOf⟩::rest,H'⟩⟩:CCtx)=x at hchain
       have hxc:x.c=c:=by rw [← hxe]
       have hxo:x.os=os:=by rw [← hxe]
       have hxH:x.H=H:=by rw [← hxe]
       have hxh:x.hd=opsE os.toList pi:=by rw [← hxe]
       have hxm:x.ms=msP (qda os.toList []) acc pi:=by rw [← hxe]
       have hxf:x.fin=fun T H'=>go ⟨⟨s.fn,T,.ops os (qhb os.toList sh)::k,s.defers,s.roundOf⟩::rest,H'⟩:=by rw [← hxe]
       obtain ⟨TF,Fs,hs,hFa,hfin⟩:=qzn (x:=x) (hxc▸hc) _ _ _ _ _ (by rw [hxH]; exact fun n e h _=>h) hchain
       rw [hxf] at hfin
       replace hfin:(go ⟨⟨s.fn,TF,.ops os (qhb os.toList sh)::k,s.defers,s.roundOf⟩::rest,hs (opsE os.toList pi).length⟩).Ob D S:=hfin
       rw [qdd,hols] at hfin
       rw [← hxh,← hxm] at hFa
       have hxhl:x.hd.length=sh:=by rw [hxh]; exact hols
       have hI:PInv x pi sh TF hs B.O B.w0 (Array.replicate os.size false) β fr.tmps w1:=by
        have hTlen:fr.tmps.size=s.tmps.length:=by have:=qva hF.tmps; simpa using this
        have hno:∀ p,¬ At (Array.replicate os.size false) pi p:=fun p=>by
         rintro ⟨i,_,h⟩
         rw [hlist] at h; cases h
        refine ⟨by simp [hxo],by rw [hTlen,hFa.lenT],fun t ht => ?_,⟨0,Nat.zero_le _,fun j o _ _ => ?_,?_⟩,fun i m hi => ?_,fun p m hp=>absurd hp (hno p),fun i _=>hlist i,hxc▸hgl▸hG.glob⟩
        . rw [hFa.same t (fun o ho hd => ?_) β]
          . have:=qwe (glob:=fun _=>none) (a:=⟨fr.tmps,fr.defers⟩) hF.tmps (fun _ _ h=>by cases h) (.tmp t)
            have e:evS (fun _=>none) s.tmps (.tmp t)=getT s.tmps t:=by
             show optC (nth s.tmps t) qua (fun v=>v)=_
             unfold getT; cases nth s.tmps t <;> rfl
            rw [e] at this; exact this
          . obtain ⟨j,hj⟩:=List.mem_iff_getElem?.1 ho
            exact hno j (ht j o hj hd)
        . exact ⟨fun h=>absurd h (hno j),fun h=>by omega⟩
        . rw [hFa.zero,hxc,← hP]; exact hH'
        . rw [hlist] at hi; cases hi
       have hsteps:=qgs (os:=os) (s:=sh) (P:=c.P) (acc:=acc) (mv:=mv) (Inv:=fun l β ts w=>PInv x pi sh TF hs B.O B.w0 l β ts w) he ht fr fr.defers k' (frs++B.cs)
        (fun h=>by rw [← hxo]; exact h.size) (fun h=>h.tail) (fun h=>by rw [← hxo]; exact h.closed)
        (fun {l β ts w i} h hi his hma rest=>by
         obtain ⟨p,hp⟩:=List.mem_iff_getElem?.1 (hpa i his)
         have hpp:=(List.getElem?_eq_some_iff.1 hp).1
         have:=qs6 (x:=x) (s:=sh) hpn (fun p i hp=>by rw [hxh,hxo]; exact hget p i hp) (fun p m q hm hb=>by
           rw [hxm] at hm
           have hpq:p<pi.length:=by
            have:=(List.getElem?_eq_some_iff.1 hm).1
            unfold msP at this
            rwa [qja,qha,qya,List.length_map,List.length_range'] at this
           rw [qt0 _ _ _ _ hpq] at hm
           cases hm
           rw [qfm] at hb
           exact of_decide_eq_true (Bool.and_eq_true_iff.1 hb).1) (by rw [hxo,hxh,hxm]; exact hh) hFa h hp (by rw [hxo]; exact hi) his (fun q hq=>by
           rw [hxm,qt0 _ _ _ _ hpp] at hq
           simp only [Option.getD_some] at hq
           rw [qfm] at hq
           obtain ⟨hqp,hb⟩:=Bool.and_eq_true_iff.1 hq
           have hqp:=of_decide_eq_true hqp
           have hql:q<pi.length:=by omega
           have hqj:pi[q]? = some pi[q]:=List.getElem?_eq_getElem hql
           rw [q2o hp,q2o hqj] at hb
           refine ⟨pi[q],hqj,?_⟩
           unfold befP at hb
           cases hbit:bitN (atN (qda os.toList []) i) pi[q] with
           | true =>
             obtain ⟨_,h2,_⟩:=qhd os.toList []
             have hio:i<os.size:=hpos i (hpa i his)
             have hil:i<(qda os.toList []).length:=by rw [h2]; simpa using hio
             have hm:=List.getElem?_eq_getElem hil
             rw [q2o hm] at hbit
             exact qrb (by rw [← hxo]; exact h.closed) hi hm hbit
           | false =>
             rw [hbit,boolC_false] at hb
             obtain ⟨hb1,hb2⟩:=q2a hb
             have hia:i∈acc:=q2n hb1
             have hmi:mv i=true:=by
              rw [← hacc] at hia
              have:=(List.mem_filter.1 hia).2
              exact (Bool.and_eq_true_iff.1 this).1
             obtain ⟨done,tl,ha,hd⟩:=hma hmi
             exact hd _ (qt9 hpn hpf ha hp hqj hqp hb2)) fr fr.defers rest k' (frs++B.cs)
         rw [hxo,hxc] at this
         exact this)
       obtain ⟨β2,ts2,w2,l2,hle,hI2,hall,hst⟩:=hsteps os.size tp (Array.replicate os.size false) β fr.tmps w1 [] hI (hun _) (fun j hj=>by cases hj) (by rw [List.nil_append]; exact hacc)
       rw [← hP] at hst
       have hatt:∀ p,p<pi.length->At l2 pi p:=fun p hp=>⟨pi[p],List.getElem?_eq_getElem hp,hall _ (hpin _ (List.getElem_mem hp)) (hpos _ (List.getElem_mem hp))⟩
       obtain ⟨cc,hcl,hcm,hH2⟩:=hI2.heap
       have hend:hs cc=hs sh:=by
        have:=qeg hFa (a:=cc) (sh - cc) (by omega) fun j o h1 h2 ho=>by
         cases hmo:q4b x.c.P o with
         | false=>rfl
         | true =>
           exfalso
           have hj:=(List.getElem?_eq_some_iff.1 ho).1
           have:=(hcm j o ho hmo).1 (hatt j (by omega))
           omega
        rw [show cc+(sh - cc)=sh from by omega] at this
        exact this
       rw [hend,hxc,← hP] at hH2
       refine .of_steps hst ⟨_,.refl _ _,.inl ⟨_,hfin,⟨β2,_,frs,w2,rfl,⟨⟨hF.fn,?_,?_,SD.denL_mono hle hF.defers,rfl,hF.kind,hF.round.mono hle⟩,hR.mono hle⟩,hH2,⟨by rw [hgl,← hxc]; exact hI2.glob,Val.le_trans hG.fix hle⟩,Eq.trans (q5b (f:=fr) (f':=fr.atR ⟨ts2,fr.defers⟩ _) rfl) hl⟩⟩⟩
       ·
        refine qkg (show ts2.toList.length=_ by rw [Array.length_toList]; exact hI2.tsz) fun i v hv => ?_
        have hi:=hI2.tmps i fun j o ho _=>hatt j (by have:=(List.getElem?_eq_some_iff.1 ho).1; omega)
        have hg:getT TF i=v:=by unfold getT; rw [qca,hv]; rfl
        have hil:i<ts2.size:=by rw [hI2.tsz]; exact (List.getElem?_eq_some_iff.1 hv).1
        rw [hg] at hi
        refine ⟨_,?_,hi⟩
        show ts2.toList[i]? = some (ts2.getD i undef)
        rw [Array.getElem?_toList]
        exact qog hil rfl
       . exact ⟨⟨rfl,OpsAt.drop os sh⟩,hkk.mono hle⟩
   . have he:qib os.toList 0=false:=by simpa using he
     rw [he] at hob
     exact hob.elim
theorem qzz (hc:CfgOK c) (hP:B.P=c.P) (hgl:B.glob=c.glob) {id:Nat} {os:Array Oper} {k:List SItem} {s:SF} {rest:List SF} {H:List SO} {β:Val} {fr:Frame} {frs:List Frame} {w:World} (hF:FrameRel β s fr) (hR:FramesRel β rest frs) (hH:HeapRel B.P B.O B.w0 β H w) (hG:BRel B β)
  (hl:((fr::frs).getLast?).map (·.fn)=some B.fn0) (htd:s.todo=.code (.region id os true)::k) (hob:(qr2 os k s rest c H go).Ob D S):After B go D S (lone fr (frs++B.cs) w):=by
 unfold qr2 jpc at hob
 cases ha:qm5 (qsa os.toList (qte (qda os.toList []) 0)) with
 | true =>
   rw [ha] at hob
   rw [boolC_true] at hob
   cases hm:ql0 os.toList with
   | true=>rw [hm,boolC_true] at hob; exact qyz hc hP hgl hF hR hH hG hl htd hob
   | false =>
   rw [hm,boolC_false] at hob
   unfold joc at hob
   cases hf:qrl c.P os (qte (qda os.toList []) 0) (qda os.toList []) with
   | false =>
     rw [hf,boolC_false] at hob
     cases hb:qsr c.P (qsa os.toList (qte (qda os.toList []) 0)) (qda os.toList []) (qsa os.toList (qte (qda os.toList []) 0)) (qda os.toList []) 0 with
     | true=>rw [hb] at hob; exact q0n hc hP hgl hF hR hH hG hl htd hob
     | false=>rw [hb] at hob; exact qvp hc hP hF hR hH hG hl htd hob
   | true =>
     rw [hf,boolC_true] at hob
     cases hb:qsr c.P (qsa os.toList (Nat.pred (qte (qda os.toList []) 0))) (qda os.toList []) (qsa os.toList (Nat.pred (qte (qda os.toList []) 0))) (qda os.toList []) 0 with
     | true=>rw [hb] at hob; exact q1n hc hP hgl hF hR hH hG hl htd hob
     | false=>rw [hb] at hob; exact qvp hc hP hF hR hH hG hl htd hob
 | false =>
   rw [ha] at hob
   unfold jlc at hob
   simp only [boolC_false] at hob
   cases hr:qn5 c (qsa os.toList (qte (qda os.toList []) 0)) with
   | false =>
     rw [hr,boolC_false] at hob
     unfold jkc at hob
     cases hk:q4h os os.toList (qda os.toList []) (qte (qda os.toList []) 0) with
     | true=>rw [hk,boolC_true] at hob; exact qvz hc hP hgl hF hR hH hG hl htd hob
     | false=>rw [hk,boolC_false] at hob; exact qwz hc hP hgl hF hR hH hG hl htd hob
   | true =>
     rw [hr,boolC_true] at hob
     cases hf:qrl c.P os (qte (qda os.toList []) 0) (qda os.toList []) with
     | false=>rw [hf] at hob; exact q0n hc hP hgl hF hR hH hG hl htd hob
     | true=>rw [hf] at hob; exact q1n hc hP hgl hF hR hH hG hl htd hob
end
end
noncomputable section
variable {α:Type}
section
variable {c:Cfg} {B:Base} {go:SS->Tree} {D:SV->List SO->Prop} {S:SS->Prop}
theorem q3n (w:World) (o:Obj):(w.alloc o).heap[w.heap.size]? = some o:=by
 show (w.heap.push o)[w.heap.size]? = _
 simp
theorem qpq {P:Program} {b:Frame} {a:Act} {k:List Item} {cs:List Frame} {w:World} {g:Operand} {ps:Array Tmp} {assign body:Code} {l:Nat} {mark:List Deferred} {w₁ w₂:World} {f:FuncId} {args:Array Value}
  (he:(Instr.enterLoop b.fn a.tmps ps assign body b.roundOf).run P w=.ok (l,mark) w₁) {d:Deferred}
  (hres:(resolve a.eval (rangeCall g l) 0).run P w₁=.ok d w₁) (hinv:(invoke d.target d.args).run P w₁=.ok (.enter f args) w₂) :
  step P (lone (b.atR a (.code (.rangeFunc g ps assign body)::k)) cs w)=.next (lone (Frame.enter P f args .normal) (b.atR { a with defers:=mark++a.defers } (.inRangeFunc l::k)::cs) w₂) :=
 stepR_rangeFunc he hres hinv
theorem qqq {P:Program} {b:Frame} {a:Act} {k:List Item} {cs:List Frame} {w:World} {g:Operand} {ps:Array Tmp} {assign body:Code} {l:Nat} {mark:List Deferred} {w₁ w₂:World} {v:Value}
  (he:(Instr.enterLoop b.fn a.tmps ps assign body b.roundOf).run P w=.ok (l,mark) w₁) {d:Deferred}
  (hres:(resolve a.eval (rangeCall g l) 0).run P w₁=.ok d w₁) (hinv:(invoke d.target d.args).run P w₁=.ok (.value v) w₂) :
  step P (lone (b.atR a (.code (.rangeFunc g ps assign body)::k)) cs w)=.next (lone ((b.atR { a with defers:=mark++a.defers } (.inRangeFunc l::k)).finish v) cs w₂) :=
 step_lone_go (by
  have hev:=Frame.eval_atR b { a with defers:=mark++a.defers } (.inRangeFunc l::k)
  simp only [Frame.atR] at hev
  have hres':Sem.run P (resolve ({ tmps:=a.tmps,defers:=mark++a.defers }:Act).eval { callee:=.value g,args := #[.const (.func (.yield l) #[] #[])],argTypes := #[] } 0) w₁=.ok d w₁:=hres
  simp [stepG,stepG.exec,Frame.atR,Sem.runT_eq,he,GStep.bare_after,stepG.apply,hev,Sem.run_bind,hres',hinv,Result.andThen])
theorem q0z {P:Program} {β:Val} {w:World} {f:SV} {fv:Value} {az args:List SV} {vs:List Value} {g:FuncId} (h:callT f az=.ok (.enter g args)) (hf:f.den β=some fv) (has:SV.denL β az=some vs) :
  ∃ d us,(Deferred.ofValue fv vs.toArray).run P w=.ok d w/\SV.denL β args=some us/\(invoke d.target d.args).run P w=(callFunc g us.toArray).run P w:=by
 unfold callT at h
 rcases q2g f with ⟨fn,xs,ys,h'⟩ | h'
 . rw [h'] at hf h
   simp only [SV.den,Option.bind_eq_some_iff,Option.map_eq_some_iff] at hf
   obtain ⟨F,hF,x,hx,y,hy,rfl⟩:=hf
   cases fn with
   | yield nm=>cases h
   | fn fn =>
     simp only [SFn.den,Option.some.injEq] at hF
     subst hF
     cases fn with
     | func g' =>
       cases h
       exact ⟨_,x++(vs++y),rfl,qae hx (qae has hy),by simp [invoke]⟩
     | method=>cases h
     | methodOf=>cases h
     | via=>cases h
     | yield=>cases h
 . rw [h'] at h; cases h
theorem qay (hc:CfgOK c) (hP:B.P=c.P) (hgl:B.glob=c.glob) {f:Operand} {ps:Array Tmp} {az bd:Code} {k:List SItem} {s:SF} {rest:List SF} {H:List SO} {β:Val} {fr:Frame} {frs:List Frame} {w:World} (hF:FrameRel β s fr) (hR:FramesRel β rest frs) (hH:HeapRel B.P B.O B.w0 β H w) (hG:BRel B β)
  (hl:((fr::frs).getLast?).map (·.fn)=some B.fn0) (htd:s.todo=.code (.rangeFunc f ps az bd)::k) (hob:(q3w c f ps az bd s k rest H go).Ob D S):After B go D S (lone fr (frs++B.cs) w):=by
 have htd':=hF.todo
 rw [htd] at htd'
 cases hft:fr.todo with
 | nil=>rw [hft] at htd'; exact htd'.elim
 | cons y k' =>
   rw [hft] at htd'
   obtain ⟨hxy,hkk⟩:=htd'
   cases y <;> first | exact hxy.elim | skip
   rename_i cd
   have hcd:cd=.rangeFunc f ps az bd:=hxy
   subst hcd
   have hfv:=qwe (glob:=c.glob) (a:=⟨fr.tmps,fr.defers⟩) hF.tmps (hgl▸hG.glob) f
   unfold q3w at hob
   have hround:=hF.round
   rw [qha] at hob
   have key:∀ (β1:Val) (H1:List SO) (w1:World) (nm:Nat) (ll:Loc) (sd:List SD) (mark:List Deferred),β.le β1->β1 nm=some ll->HeapRel B.P B.O B.w0 β1 H1 w1->SD.denL β1 sd=some (mark++fr.defers) ->
     (Instr.enterLoop fr.fn fr.tmps ps az bd fr.roundOf).run B.P w=.ok (ll.blk,mark) w1 ->
     (match callT (evS c.glob s.tmps f) [.func (.yield nm) [] []] with
      | .ok (.enter g args)=>qvk c g args ⟨s.fn,s.tmps,.inRF nm::k,sd,s.roundOf⟩ rest H1 go
      | _=>.stuck 414).Ob D S->After B go D S (lone fr (frs++B.cs) w):=by
    intro β1 H1 w1 nm ll sd mark hle hnm hH1 hsd hent hob
    split at hob
    . rename_i g args hcall
      have hyd:SV.denL β1 [.func (.yield nm) [] []]=some [.func (.yield ll.blk) #[] #[]]:=by
       simp [SV.denL,SV.den,SFn.den,hnm]
      obtain ⟨d,us,hd,hus,hinv⟩:=q0z (P:=B.P) (w:=w1) hcall (SV.den_mono hle _ hfv) hyd
      have hF1:FrameRel β1 ⟨s.fn,s.tmps,.inRF nm::k,sd,s.roundOf⟩ (fr.atR ⟨fr.tmps,mark++fr.defers⟩ (.inRangeFunc ll.blk::k')) :=
       ⟨hF.fn,SV.denL_mono hle _ hF.tmps,⟨⟨ll,hnm,rfl⟩,hkk.mono hle⟩,hsd,rfl,hF.kind,hF.round.mono hle⟩
      have hres:(resolve (Act.eval ⟨fr.tmps,fr.defers⟩) (rangeCall f ll.blk) 0).run B.P w1=.ok d w1:=by
       have e:resolve (Act.eval ⟨fr.tmps,fr.defers⟩) (rangeCall f ll.blk) 0=Deferred.ofValue (Act.eval ⟨fr.tmps,fr.defers⟩ f) #[.func (.yield ll.blk) #[] #[]]:=by simp [resolve,Act.eval]
       rw [e]; exact hd
      refine qun hc hP hgl hF1 (hR.mono hle) hH1 (hG.mono hle) ((q5b (f:=fr) (f':=fr.atR ⟨fr.tmps,mark++fr.defers⟩ (.inRangeFunc ll.blk::k')) rfl).trans hl) hus hob (fun he=>.one ?_) fun v w' he=>.one ?_
      . conv=>lhs; rw [qqb hF.mode,hft]
        exact qpq (a:=⟨fr.tmps,fr.defers⟩) hent hres (hinv.trans he)
      . conv=>lhs; rw [qqb hF.mode,hft]
        exact qqq (a:=⟨fr.tmps,fr.defers⟩) hent hres (hinv.trans he)
    . exact hob.elim
   cases hro:s.roundOf with
   | none =>
     rw [hro] at hob hround
     have hfr:fr.roundOf=none:=by
      cases hx:fr.roundOf with
      | none=>rfl
      | some b=>rw [hx] at hround; exact hround.elim
     have hb0:=hH.bound _ (Nat.le_refl H.length)
     have hE1:Eff B.P β w H.length [] [.deferred (some [])] (β.upd H.length ⟨w.heap.size,0,0⟩) (w.alloc (.deferred (some []))) :=
      Eff.lay1 hb0 rfl ⟨_,some [],Val.upd_same _ _ _,rfl,q3n _ _⟩
     have hH1:=hH.apply hE1 (by simp)
     rw [qhc] at hH1
     replace hH1:HeapRel B.P B.O B.w0 _ (H++[.deferred (some [])]) _:=hH1
     have hlen:(H++[SO.deferred (some [])]).length=H.length+1:=by simp
     have hb1:=hH1.bound _ (Nat.le_refl _)
     have hE2:Eff B.P (β.upd H.length ⟨w.heap.size,0,0⟩) (w.alloc (.deferred (some []))) (H++[SO.deferred (some [])]).length [] [.loop .ready none s.fn s.tmps ps az bd H.length] ((β.upd H.length ⟨w.heap.size,0,0⟩).upd (H++[SO.deferred (some [])]).length ⟨(w.alloc (.deferred (some []))).heap.size,0,0⟩)
       ((w.alloc (.deferred (some []))).alloc (.loop { state:=.ready,pending:=none,fn:=fr.fn,tmps:=fr.tmps,params:=ps,assign:=az,body:=bd,defers:=w.heap.size })):=by
      refine Eff.lay1 hb1 rfl ⟨_,⟨w.heap.size,0,0⟩,fr.tmps.toList,Val.upd_same _ _ _,Val.upd_le hb1 _ _ (Val.upd_same _ _ _),SV.denL_mono (Val.le_trans hE1.le (Val.upd_le hb1)) _ hF.tmps,?_⟩
      rw [hF.fn]; exact q3n _ _
     have hH2:=hH1.apply hE2 (by simp)
     rw [qhc] at hH2
     have hle:=Val.le_trans hE1.le hE2.le
     refine key _ _ _ (H.length+1) ⟨(w.alloc (.deferred (some []))).heap.size,0,0⟩ (.coll H.length::s.defers) [{ target:=.collected w.heap.size,args := #[] }] hle ?_ hH2 ?_ ?_ ?_
     . rw [← hlen]; exact Val.upd_same _ _ _
     . have h1:=hE2.le _ _ (Val.upd_same β H.length ⟨w.heap.size,0,0⟩)
       have h2:=SD.denL_mono (Val.le_trans hE1.le hE2.le) hF.defers
       show (SD.den _ (.coll H.length)).bind _=_
       simp only [SD.den,h1,Option.map_some,Option.bind_some,h2]
       rfl
     . rw [hfr,run_enterLoop_outer,World.size_alloc]
     . have e:qgc (H++[SO.deferred (some [])]) []++[SO.loop .ready none s.fn s.tmps ps az bd H.length]=app H [.deferred (some []),.loop .ready none s.fn s.tmps ps az bd H.length]:=by
        rw [q1a]; show (H++_)++_=_; simp
       rw [e,hro]
       exact hob
   | some nm0 =>
     rw [hro] at hob hround
     simp only at hob
     cases hx:fr.roundOf with
     | none=>rw [hx] at hround; exact hround.elim
     | some b =>
       rw [hx] at hround
       obtain ⟨l0,hl0,rfl⟩:=hround
       split at hob
       . rename_i st p f0 T0 ps0 a0 b0 d hloop
         obtain ⟨l1,r,hl1,hh,_,_,_,_,_,_,_,⟨ld,hd,hrd⟩,_⟩:=qdi hH (q1f hloop)
         rw [hl0] at hl1; cases hl1
         have hb0:=hH.bound _ (Nat.le_refl H.length)
         have hE1:Eff B.P β w H.length [] [.loop .ready none s.fn s.tmps ps az bd d] (β.upd H.length ⟨w.heap.size,0,0⟩)
           (w.alloc (.loop { state:=.ready,pending:=none,fn:=fr.fn,tmps:=fr.tmps,params:=ps,assign:=az,body:=bd,defers:=r.defers })):=by
          refine Eff.lay1 hb0 rfl ⟨_,ld,fr.tmps.toList,Val.upd_same _ _ _,Val.upd_le hb0 _ _ hd,SV.denL_mono (Val.upd_le hb0) _ hF.tmps,?_⟩
          rw [hF.fn,hrd]; exact q3n _ _
         have hH1:=hH.apply hE1 (by simp)
         rw [qhc] at hH1
         refine key _ _ _ H.length _ s.defers [] hE1.le (Val.upd_same _ _ _) hH1 ?_ ?_ ?_
         . rw [List.nil_append]; exact SD.denL_mono hE1.le hF.defers
         . rw [hx]; exact run_enterLoop_inner hh _ _ _ _ _
         . have e:qgc H []++[SO.loop .ready none s.fn s.tmps ps az bd d]=app H [.loop .ready none s.fn s.tmps ps az bd d]:=by
            rw [q1a]; rfl
           rw [e,hro]
           split at hob
           . rename_i g args hcall
             rw [hcall]; exact hob
           . exact hob.elim
       . exact hob.elim
theorem qhs (hc:CfgOK c) (hP:B.P=c.P) (hgl:B.glob=c.glob) {s:SS} {m:Machine} (hM:MRel B s m) (hob:(qcw c s go).Ob D S):After B go D S m:=by
 obtain ⟨β,fr,frs,w,rfl,hFs,hH,hG,hl⟩:=hM.ex
 obtain ⟨frames,H⟩:=s
 cases frames with
 | nil=>exact hFs.elim
 | cons s rest =>
   obtain ⟨hF,hR⟩:=hFs
   replace hob:(jsc s.todo s rest c H go).Ob D S:=hob
   cases htd:s.todo with
   | nil=>rw [htd] at hob; exact qzm hc hP hgl hF hR hH hG hl (.inl htd) hob
   | cons x k =>
     rw [htd] at hob
     replace hob:(jrc x k s rest c H go).Ob D S:=hob
     have htd':=hF.todo
     rw [htd] at htd'
     cases hft:fr.todo with
     | nil=>rw [hft] at htd'; exact htd'.elim
     | cons y k' =>
       rw [hft] at htd'
       obtain ⟨hxy,hkk⟩:=htd'
       cases x with
       | inBlock id =>
         cases y <;> first | exact hxy.elim | skip
         refine q0c hF hR hH hG hl hkk hob ?_
         rw [hft]; exact stepR_inBlock
       | inScope cd =>
         cases y <;> first | exact hxy.elim | skip
         refine q0c hF hR hH hG hl hkk hob ?_
         rw [hft]; exact step_lone_go (by simp [stepG,stepG.exec,Frame.atR])
       | inLoop cd =>
         cases y <;> first | exact hxy.elim | skip
         . rename_i cd'
           have:cd'=.loop cd:=hxy
           subst this
           refine q0c hF hR hH hG hl (k:=.code cd::.inLoop cd::k) (k':=.code cd::.inLoop cd::k') ⟨rfl,rfl,hkk⟩ hob ?_
           rw [hft]; exact stepR_loop
         . rename_i cd'
           have:cd'=cd:=hxy
           subst this
           refine q0c hF hR hH hG hl (k:=.code cd'::.inLoop cd'::k) (k':=.code cd'::.inLoop cd'::k') ⟨rfl,rfl,hkk⟩ hob ?_
           rw [hft]; exact stepR_inLoop
       | inRF nm=>exact hob.elim
       | endRF nm =>
         cases y <;> first | exact hxy.elim | skip
         rename_i b
         obtain ⟨l0,hl0,rfl⟩:=hxy
         replace hob:(q8w nm k s rest c H go).Ob D S:=hob
         unfold q8w at hob
         split at hob
         . rename_i st p f T ps a b d hloop
           obtain ⟨l1,r,hl1,hh,hst,hpe,_,_,_,_,_,_,hturn⟩:=qdi hH (q1f hloop)
           rw [hl0] at hl1; cases hl1
           obtain ⟨hnb,td,htd2,hob⟩:st≠.busy/\∃ td,TodoRel β td ((p.map Item.code).toList++k')/\(go ⟨⟨s.fn,s.tmps,td,s.defers,s.roundOf⟩::rest,setN H nm (.loop .exhausted p f T ps a b d)⟩).Ob D S:=by
            cases st <;> first
             | exact hob.elim
             | (cases p with
               | none=>exact ⟨by simp,k,hkk,hob⟩
               | some j=>exact ⟨by simp,.code j::k,⟨rfl,hkk⟩,hob⟩)
           subst hpe
           have hrun:=run_endLoop (P:=B.P) hh (by rw [hst]; exact hnb)
           have hstep:=stepR_endRangeFunc (P:=B.P) (b:=fr) (a:=⟨fr.tmps,fr.defers⟩) (k:=k') (cs:=frs++B.cs) hrun
           rw [← hft,← qqb hF.mode] at hstep
           have hH':=hturn .exhausted r.pending
           exact ⟨_,.one hstep,.inl ⟨_,hob,⟨β,_,frs,_,rfl,⟨⟨hF.fn,hF.tmps,htd2,hF.defers,rfl,hF.kind,hF.round⟩,hR⟩,hH',hG,Eq.trans (q5b (f:=fr) (f':=fr.atR ⟨fr.tmps,fr.defers⟩ _) rfl) hl⟩⟩⟩
         . exact hob.elim
       | beginRound =>
         cases y <;> first | exact hxy.elim | skip
         replace hob:(q7w k s rest c H go).Ob D S:=hob
         unfold q7w at hob
         split at hob
         . rename_i nm hro
           have hround:=hF.round
           rw [hro] at hround
           cases hx:fr.roundOf with
           | none=>rw [hx] at hround; exact hround.elim
           | some b =>
             rw [hx] at hround
             obtain ⟨l0,hl0,rfl⟩:=hround
             split at hob
             . rename_i p f T ps a b d hloop
               obtain ⟨l1,r,hl1,hh,hst,hpe,_,_,_,_,_,_,hturn⟩:=qdi hH (q1f hloop)
               rw [hl0] at hl1; cases hl1
               subst hpe
               have hstep:=stepR_beginRound (P:=B.P) (b:=fr) (a:=⟨fr.tmps,fr.defers⟩) (k:=k') (cs:=frs++B.cs) hx (run_beginRound hh hst)
               rw [← hft,← qqb hF.mode] at hstep
               have hH':=hturn .busy r.pending
               exact ⟨_,.one hstep,.inl ⟨_,hob,⟨β,_,frs,_,rfl,⟨⟨hF.fn,hF.tmps,hkk,hF.defers,rfl,hF.kind,hF.round⟩,hR⟩,hH',hG,Eq.trans (q5b (f:=fr) (f':=fr.atR ⟨fr.tmps,fr.defers⟩ _) rfl) hl⟩⟩⟩
             . exact hob.elim
         . exact hob.elim
       | ops os l =>
         cases l with
         | nil =>
           cases y <;> first | exact hxy.elim | skip
           rename_i os' idx
           obtain ⟨rfl,hat⟩:=hxy
           cases idx with
           | cons=>exact hat.elim
           | nil =>
           refine q0c hF hR hH hG hl hkk hob ?_
           rw [hft]; exact stepR_region_end
         | cons o l=>exact qn6 hc hP hgl hF hR hH hG hl htd hob
       | code cd =>
         cases y <;> first | exact hxy.elim | skip
         rename_i cd'
         have hcd:cd'=cd:=hxy
         subst hcd
         replace hob:(jqc cd' k s rest c H go).Ob D S:=hob
         cases cd' with
         | skip=>refine q0c hF hR hH hG hl hkk hob ?_; rw [hft]; exact stepR_skip
         | label n=>refine q0c hF hR hH hG hl hkk hob ?_; rw [hft]; exact stepR_label
         | seq a b=>refine q0c hF hR hH hG hl (k:=.code a::.code b::k) (k':=.code a::.code b::k') ⟨rfl,rfl,hkk⟩ hob ?_; rw [hft]; exact stepR_seq
         | block id body=>refine q0c hF hR hH hG hl (k:=.code body::.inBlock id::k) (k':=.code body::.inBlock id::k') ⟨rfl,rfl,hkk⟩ hob ?_; rw [hft]; exact stepR_block
         | loop body =>
           replace hob:(go ⟨s.to (.inLoop body::k)::rest,H⟩).Ob D S:=hob
           exact ⟨_,.refl _ _,.inl ⟨_,hob,⟨β,fr,frs,w,rfl,⟨⟨hF.fn,hF.tmps,by rw [hft]; exact ⟨rfl,hkk⟩,hF.defers,hF.mode,hF.kind,hF.round⟩,hR⟩,hH,hG,hl⟩⟩⟩
         | scope body =>
           refine q0c hF hR hH hG hl (k:=.code body::.inScope body::k) (k':=.code body::.inScope body::k') ⟨rfl,rfl,hkk⟩ hob ?_
           rw [hft]; exact step_lone_go (by simp [stepG,stepG.exec,Frame.atR])
         | goto n=>exact hob.elim
         | refuse w=>exact hob.elim
         | ret=>exact qzm hc hP hgl hF hR hH hG hl (.inr ⟨k,htd⟩) hob
         | exit id =>
           replace hob:(ql2 id k s rest c H go).Ob D S:=hob
           unfold ql2 at hob
           have hsp:=qbs (β:=β) id k k' hkk
           cases hex:qso id k with
           | some r =>
             rw [hex] at hob hsp
             obtain ⟨r',hr',hrr⟩:=hsp
             refine q0c hF hR hH hG hl hrr hob ?_
             rw [hft]; exact stepR_exit hr'
           | none =>
             rw [hex] at hob hsp
             simp only at hob hsp
             split at hob
             . rename_i nm hro
               have hround:=hF.round
               rw [hro] at hround
               cases hx:fr.roundOf with
               | none=>rw [hx] at hround; exact hround.elim
               | some b =>
                 rw [hx] at hround
                 obtain ⟨l0,hl0,rfl⟩:=hround
                 refine q6k hR hH hG hl hob fun l cc cs w' hb hrun => ?_
                 rw [hl0] at hb; cases hb
                 rw [qqb hF.mode,hft]
                 exact stepR_round_exit hx hF.kind hsp hrun
             . exact hob.elim
         | cond x a b =>
           replace hob:(qk2 x a b k s rest c H go).Ob D S:=hob
           unfold qk2 at hob
           have hx:=qwe (glob:=c.glob) (a:=⟨fr.tmps,fr.defers⟩) hF.tmps (hgl▸hG.glob) x
           rcases qmj (evS c.glob s.tmps x) with ⟨v,hv⟩ | hno
           . rw [hv] at hob hx
             have hval:Act.eval ⟨fr.tmps,fr.defers⟩ x=.bool v.den:=(Option.some.inj hx).symm
             have key:∀ t:Bool,v.den=t->(go ⟨s.to (.code (if t then a else b)::k)::rest,H⟩).Ob D S->After B go D S (lone fr (frs++B.cs) w):=by
              intro t ht hob
              refine q0c hF hR hH hG hl (k:=.code (if t then a else b)::k) (k':=.code (if t then a else b)::k') ⟨rfl,hkk⟩ hob ?_
              rw [hft]
              exact stepR_cond (by rw [hval,ht])
             cases v with
             | lit v=>cases v with
               | true=>exact key true rfl hob
               | false=>exact key false rfl hob
             | sym v=>cases v with
               | true=>exact key true rfl (hob.1 rfl)
               | false=>exact key false rfl (hob.2 rfl)
           . rw [hno] at hob; exact hob.elim
         | region id os draw =>
           cases draw with
           | true=>exact qzz hc hP hgl hF hR hH hG hl htd hob
           | false =>
             refine q0c hF hR hH hG hl (k:=.ops os os.toList::k) (k':=.inRegion os (List.range os.size)::k') ⟨⟨rfl,OpsAt.all os⟩,hkk⟩ hob ?_
             rw [hft]; exact stepR_region
         | rangeFunc f ps a b=>exact qay hc hP hgl hF hR hH hG hl htd hob
def Ends (B:Base) (D:SV->List SO->Prop) (S:SS->Prop) (m:Machine):Prop :=
 ∃ m',Steps B.P m m'/\((∃ v H,D v H/\DoneRel B v H m')\/(∃ s,S s/\MRel B s m'))
theorem q4n (hc:CfgOK c) (hP:B.P=c.P) (hgl:B.glob=c.glob):∀ (n:Nat) (s:SS) (m:Machine),MRel B s m->(sim c n s).Ob D S->Ends B D S m:=by
 intro n
 induction n with
 | zero=>intro s m hM h; exact ⟨m,.refl _ _,.inr ⟨s,h,hM⟩⟩
 | succ n ih =>
   intro s m hM h
   replace h:(boolC (qs2 c s) (.stop s) (qcw c s (sim c n))).Ob D S:=h
   cases hst:qs2 c s with
   | true=>rw [hst] at h; exact ⟨m,.refl _ _,.inr ⟨s,h,hM⟩⟩
   | false =>
     rw [hst] at h
     obtain ⟨m1,hs,⟨s',h',hM'⟩ | ⟨v,H,hD,hM'⟩⟩:=qhs hc hP hgl hM h
     . obtain ⟨m2,hs2,hr⟩:=ih s' m1 hM' h'
       exact ⟨m2,hs.trans hs2,hr⟩
     . exact ⟨m1,hs,.inl ⟨v,H,hD,hM'⟩⟩
theorem qt3 (hc:CfgOK c) (hP:B.P=c.P) (hgl:B.glob=c.glob) {n:Nat} {s:SS} {m:Machine} (hM:MRel B s m) (h:(sim1 c n s).Ob D S):Ends B D S m:=by
 obtain ⟨m1,hs,⟨s',h',hM'⟩ | ⟨v,H,hD,hM'⟩⟩:=qhs hc hP hgl hM h
 . obtain ⟨m2,hs2,hr⟩:=q4n hc hP hgl n s' m1 hM' h'
   exact ⟨m2,hs.trans hs2,hr⟩
 . exact ⟨m1,hs,.inl ⟨v,H,hD,hM'⟩⟩
end
end
noncomputable section
variable {α:Type}
def qfa (c:Cfg) (n:Nat) (f:FuncId) (args:List SV) (H:List SO):Tree:=optC (q7d c.P f args) (.stuck 500) fun g=>sim c n ⟨[g],H⟩
def Came (P:Program) (O:Nat->Prop) (w0:World) (β:Val) (D:SV->List SO->Prop) (e:Ending) (w':World):Prop :=
 ∃ v H x β',e=.returned x/\D v H/\β.le β'/\v.den β'=some x/\HeapRel P O w0 β' H w'
theorem qis {c:Cfg} {O:Nat->Prop} {w0 w:World} {β:Val} {H:List SO} {f:FuncId} {args:List SV} {vs:List Value} {g:SF} (hH:HeapRel c.P O w0 β H w) (hG:GlobRel c.glob β) (ha:SV.denL β args=some vs) (hg:q7d c.P f args=some g) (cs:List Frame) :
  MRel ⟨c.P,c.glob,O,w0,cs,f,β⟩ ⟨[g],H⟩ (lone (Frame.enter c.P f vs.toArray .normal) cs w):=by
 obtain ⟨h1,_⟩:=qtn hg ha
 exact ⟨β,_,[],w,rfl,⟨h1,trivial⟩,hH,⟨hG,Val.le_refl β⟩,rfl⟩
theorem qrq {c:Cfg} (hc:CfgOK c) {n:Nat} {O:Nat->Prop} {w0 w:World} {β:Val} {H:List SO} {f:FuncId} {args:List SV} {vs:List Value} (hH:HeapRel c.P O w0 β H w) (hG:GlobRel c.glob β) (ha:SV.denL β args=some vs) {D:SV->List SO->Prop}
  (hob:(qfa c n f args H).Ob D fun _=>False):Calls c.P f vs.toArray w (Came c.P O w0 β D):=by
 intro cs
 unfold qfa at hob
 cases hg:q7d c.P f args with
 | none=>rw [hg] at hob; exact hob.elim
 | some g =>
   rw [hg] at hob
   obtain ⟨m',hs,⟨v,H',hD,hdone⟩ | ⟨s,hS,_⟩⟩:=q4n (B:=⟨c.P,c.glob,O,w0,cs,f,β⟩) hc rfl rfl n _ _ (qis hH hG ha hg cs) hob
   . obtain ⟨β',fr,x,w',rfl,hfn,hleave,hv,hH',hG'⟩:=hdone.ex
     exact ⟨.returned x,w',fr,⟨v,H',x,β',rfl,hD,hG'.fix,hv,hH'⟩,hs,hfn,hleave⟩
   . exact hS.elim
theorem Keep.below {w w':World} (h:Keep (fun _=>False) w w'):Go.RowKit.Below w.heap.size w w' :=
 ⟨h.os,h.tape,h.output,h.size,fun k hk=>h.block k hk fun f=>f⟩
def jae:Val:=fun _=>none
theorem HeapRel.start (P:Program) (O:Nat->Prop) (w:World):HeapRel P O w jae [] w :=
 ⟨⟨by simp,by simp,by simp,⟨rfl,rfl,rfl,Nat.le_refl _,Nat.le_refl _,fun _ _ _=>rfl⟩⟩,fun _ _=>rfl⟩
theorem GlobRel.none (β:Val):GlobRel (fun _=>Option.none) β:=fun _ _ h=>by cases h
end
noncomputable section
variable {α:Type}
def SA.ren (f:Nat->Nat) (a:SA):SA:=⟨f a.nm,a.off⟩
def SC.ren (f:Nat->Nat):SC->SC
 | .lit n=>.lit n
 | .sym n=>.sym n
 | .rest nm k=>.rest (f nm) k
def SFn.ren (f:Nat->Nat):SFn->SFn
 | .fn g=>.fn g
 | .yield nm=>.yield (f nm)
mutual
def SV.ren (f:Nat->Nat):SV->SV
 | .int k n=>.int k n
 | .bool b=>.bool b
 | .str s=>.str s
 | .ptr a=>.ptr (a.ren f)
 | .nilPtr=>.nilPtr
 | .slice a l c=>.slice (a.ren f) l (c.ren f)
 | .nilSlice=>.nilSlice
 | .map nm=>.map (f nm)
 | .nilMap=>.nilMap
 | .func g xs ys=>.func (g.ren f) (SV.renL f xs) (SV.renL f ys)
 | .nilFunc=>.nilFunc
 | .iface t v=>.iface t (v.ren f)
 | .nilIface=>.nilIface
 | .agg l=>.agg (SV.renL f l)
 | .tuple l=>.tuple (SV.renL f l)
 | .val v=>.val v
 | .tail a n l c=>.tail (a.ren f) n l (c.ren f)
def SV.renL (f:Nat->Nat):List SV->List SV
 | []=>[]
 | v::l=>v.ren f::SV.renL f l
end
theorem SC.den_ren (f:Nat->Nat) (β:Val) (c:SC):(c.ren f).den β=c.den (fun n=>β (f n)):=by cases c <;> rfl
theorem SFn.den_ren (f:Nat->Nat) (β:Val) (c:SFn):(c.ren f).den β=c.den (fun n=>β (f n)):=by cases c <;> rfl
mutual
theorem SV.den_ren (f:Nat->Nat) (β:Val):(v:SV)->(v.ren f).den β=v.den (fun n=>β (f n))
 | .int _ _=>rfl
 | .bool _=>rfl
 | .str _=>rfl
 | .ptr _=>rfl
 | .nilPtr=>rfl
 | .slice a l c=>by simp only [SV.ren,SV.den,SC.den_ren]; rfl
 | .nilSlice=>rfl
 | .map _=>rfl
 | .nilMap=>rfl
 | .func g xs ys=>by simp only [SV.ren,SV.den,SFn.den_ren,SV.denL_ren f β xs,SV.denL_ren f β ys]
 | .nilFunc=>rfl
 | .iface t v=>by simp only [SV.ren,SV.den,SV.den_ren f β v]
 | .nilIface=>rfl
 | .agg l=>by simp only [SV.ren,SV.den,SV.denL_ren f β l]
 | .tuple l=>by simp only [SV.ren,SV.den,SV.denL_ren f β l]
 | .val _=>rfl
 | .tail a n l c=>by simp only [SV.ren,SV.den,SC.den_ren]; rfl
theorem SV.denL_ren (f:Nat->Nat) (β:Val):(l:List SV)->SV.denL β (SV.renL f l)=SV.denL (fun n=>β (f n)) l
 | []=>rfl
 | v::l=>by simp only [SV.renL,SV.denL,SV.den_ren f β v,SV.denL_ren f β l]
end
def SC.uses (p:Nat->Bool):SC->Bool
 | .rest nm _=>p nm
 | _=>true
def SFn.uses (p:Nat->Bool):SFn->Bool
 | .yield nm=>p nm
 | _=>true
mutual
def SV.uses (p:Nat->Bool):SV->Bool
 | .ptr a=>p a.nm
 | .slice a _ c=>p a.nm && c.uses p
 | .tail a _ _ c=>p a.nm && c.uses p
 | .map nm=>p nm
 | .func g xs ys=>g.uses p && (SV.usesL p xs && SV.usesL p ys)
 | .iface _ v=>v.uses p
 | .agg l=>SV.usesL p l
 | .tuple l=>SV.usesL p l
 | _=>true
def SV.usesL (p:Nat->Bool):List SV->Bool
 | []=>true
 | v::l=>v.uses p && SV.usesL p l
end
theorem SC.den_uses {p:Nat->Bool} {β β':Val} (hp:∀ n,p n=true->β n=β' n) {c:SC} (h:c.uses p=true):c.den β=c.den β':=by
 cases c with
 | rest nm k=>simp only [SC.den,hp nm h]
 | _=>rfl
theorem SFn.den_uses {p:Nat->Bool} {β β':Val} (hp:∀ n,p n=true->β n=β' n) {c:SFn} (h:c.uses p=true):c.den β=c.den β':=by
 cases c with
 | yield nm=>simp only [SFn.den,hp nm h]
 | _=>rfl
mutual
theorem SV.den_uses {p:Nat->Bool} {β β':Val} (hp:∀ n,p n=true->β n=β' n):(v:SV)->v.uses p=true->v.den β=v.den β'
 | .int _ _,_=>rfl
 | .bool _,_=>rfl
 | .str _,_=>rfl
 | .ptr a,h=>by simp only [SV.den,SA.den,hp a.nm h]
 | .nilPtr,_=>rfl
 | .slice a l c,h=>by
   simp only [SV.uses,Bool.and_eq_true] at h
   simp only [SV.den,SA.den,hp a.nm h.1,SC.den_uses hp h.2]
 | .nilSlice,_=>rfl
 | .map nm,h=>by simp only [SV.den,hp nm h]
 | .nilMap,_=>rfl
 | .func g xs ys,h=>by
   simp only [SV.uses,Bool.and_eq_true] at h
   simp only [SV.den,SFn.den_uses hp h.1,SV.denL_uses hp xs h.2.1,SV.denL_uses hp ys h.2.2]
 | .nilFunc,_=>rfl
 | .iface t v,h=>by simp only [SV.den,SV.den_uses hp v h]
 | .nilIface,_=>rfl
 | .agg l,h=>by simp only [SV.den,SV.denL_uses hp l h]
 | .tuple l,h=>by simp only [SV.den,SV.denL_uses hp l h]
 | .val _,_=>rfl
 | .tail a n l c,h=>by
   simp only [SV.uses,Bool.and_eq_true] at h
   simp only [SV.den,SA.den,hp a.nm h.1,SC.den_uses hp h.2]
theorem SV.denL_uses {p:Nat->Bool} {β β':Val} (hp:∀ n,p n=true->β n=β' n):(l:List SV)->SV.usesL p l=true->SV.denL β l=SV.denL β' l
 | [],_=>rfl
 | v::l,h=>by
   simp only [SV.usesL,Bool.and_eq_true] at h
   simp only [SV.denL,SV.den_uses hp v h.1,SV.denL_uses hp l h.2]
end
def Cells.ren (f:Nat->Nat):Cells->Cells
 | .lst l=>.lst (SV.renL f l)
 | .fn g n=>.fn (fun i=>(g i).ren f) n
 | .raw V n=>.raw V n
def Cells.Uses (p:Nat->Bool):Cells->Prop
 | .lst l=>SV.usesL p l=true
 | .fn g _=>∀ i,(g i).uses p=true
 | .raw _ _=>True
theorem CellsRel.ren {f:Nat->Nat} {β β':Val} {p:Nat->Bool} {c:Cells} (hu:c.Uses p) (hp:∀ n,p n=true->β (f n)=β' n) {vs:List Value}:CellsRel β (c.ren f) vs↔CellsRel β' c vs:=by
 cases c with
 | lst l =>
   show SV.denL β (SV.renL f l)=some vs↔SV.denL β' l=some vs
   rw [SV.denL_ren,SV.denL_uses hp l hu]
 | fn g n =>
   show (vs.length=n/\∀ i x,vs[i]? = some x->((g i).ren f).den β=some x)↔(vs.length=n/\∀ i x,vs[i]? = some x->(g i).den β'=some x)
   have:∀ i,((g i).ren f).den β=(g i).den β':=fun i=>by rw [SV.den_ren,SV.den_uses hp _ (hu i)]
   simp only [this]
 | raw V n=>exact Iff.rfl
def SO.ren (f:Nat->Nat):SO->SO
 | .own c w e=>.own (c.ren f) w e
 | .row c=>.row (c.ren f)
 | e=>e
def qdw (f:Nat->Nat) (es:List (SV × SV × Nat)):List (SV × SV × Nat):=mapN (fun e=>(e.1.ren f,e.2.1.ren f,e.2.2)) es
def SObj.ren (f:Nat->Nat) (o:SObj):SObj:=SObj.rec (motive:=fun _=>SObj) (fun es clock=>.map (qdw f es) clock) (fun m since seen last=>.iter (optC m none fun n=>some (f n)) since seen last) (fun s pos=>.str s pos) (fun ks vs es c=>.amap ks vs es c) o
theorem qxp (f:Nat->Nat) (β:Val):∀ es:List (SV × SV × Nat),qma β (qdw f es)=qma (fun n=>β (f n)) es
 | []=>rfl
 | e::r=>by
   show qma β ((e.1.ren f,e.2.1.ren f,e.2.2)::qdw f r)=_
   simp only [qma,SV.den_ren,qxp f β r]
theorem SObj.den_ren (f:Nat->Nat) (β:Val) (o:SObj):(o.ren f).den β=o.den (fun n=>β (f n)):=by
 cases o with
 | map es clock =>
   show (qma β (qdw f es)).map _=(qma _ es).map _
   rw [qxp]
 | iter m since seen last=>cases m <;> rfl
 | str s pos=>rfl
 | amap=>rfl
def SObj.Imp (a b:SObj):Prop:=∀ β x,a.den β=some x->b.den β=some x
def qby (p:Nat->Bool) (es:List (SV × SV × Nat)):Bool:=List.rec (motive:=fun _=>Bool) true (fun e _ ih=>boolC (e.1.uses p) (boolC (e.2.1.uses p) ih false) false) es
def SObj.uses (p:Nat->Bool) (o:SObj):Bool:=SObj.rec (motive:=fun _=>Bool) (fun es _=>qby p es) (fun m _ _ _=>optC m true p) (fun _ _=>true) (fun _ _ _ _=>true) o
theorem qjs {a b:Bool} (h:boolC a b false=true):a=true/\b=true:=by cases a <;> first | (cases h; done) | exact ⟨rfl,h⟩
theorem q5n {p:Nat->Bool} {β β':Val} (hp:∀ n,p n=true->β n=β' n):(es:List (SV × SV × Nat))->qby p es=true->qma β es=qma β' es
 | [],_=>rfl
 | e::r,h=>by
   obtain ⟨h1,h2⟩:=qjs (show boolC (e.1.uses p) (boolC (e.2.1.uses p) (qby p r) false) false=true from h)
   obtain ⟨h2,h3⟩:=qjs h2
   simp only [qma,SV.den_uses hp _ h1,SV.den_uses hp _ h2,q5n hp r h3]
theorem SObj.den_uses {p:Nat->Bool} {β β':Val} (hp:∀ n,p n=true->β n=β' n) {o:SObj} (h:o.uses p=true):o.den β=o.den β':=by
 cases o with
 | map es c =>
   show (qma β es).map _=(qma β' es).map _
   rw [q5n hp es h]
 | iter m since seen last =>
   cases m with
   | none=>rfl
   | some m =>
     have h:p m=true:=h
     show (β m).map _=(β' m).map _
     rw [hp m h]
 | str s pos=>rfl
 | amap=>rfl
structure Ifc where
 names:List Nat
 ents:List SO
 args:List SV
def Ifc.big (I:Ifc) (j:Nat):Nat:=(nth I.names j).getD 0
def Ifc.known (I:Ifc) (j:Nat):Bool:=Nat.blt j (lenN I.names)
def SO.placed:SO->Bool
 | .own _ _ _=>true
 | .row _=>true
 | _=>false
def SV.Imp (v u:SV):Prop:=∀ β x,v.den β=some x->u.den β=some x
def SV.ImpL (l m:List SV):Prop:=∀ β vs,SV.denL β l=some vs->SV.denL β m=some vs
theorem SV.ImpL.refl (l:List SV):SV.ImpL l l:=fun _ _ h=>h
def Cells.Imp (c d:Cells):Prop:=∀ β vs,CellsRel β c vs->CellsRel β d vs
def Cells.Front (c d:Cells):Prop:=∀ β vs,CellsRel β c vs->∃ k,CellsRel β d (vs.take k)
theorem SV.Imp.refl (v:SV):v.Imp v:=fun _ _ h=>h
theorem Cells.Imp.refl (c:Cells):c.Imp c:=fun _ _ h=>h
theorem Cells.Imp.front {c d:Cells} (h:c.Imp d):c.Front d:=fun β vs x=>⟨vs.length,by rw [List.take_length]; exact h β vs x⟩
def Taken (f:Nat->Nat) (E e:SO):Prop :=
 match E with
 | .own c w el=>∃ c0,e=.own c0 w el/\c0.Imp (c.ren f)
 | .row c=>∃ c0,(e=.row c0\/∃ w el,e=.own c0 w el)/\c0.Front (c.ren f)
 | .gone=>e.placed=true
 | _=>False
def SO.CUses (p:Nat->Bool):SO->Prop
 | .own c _ _=>c.Uses p
 | .row c=>c.Uses p
 | .gone=>True
 | _=>False
structure Ifc.Fits (I:Ifc) (H:List SO):Prop where
 len:I.ents.length=I.names.length
 nodup:∀ (i j nm:Nat),I.names[i]? = some nm->I.names[j]? = some nm->i=j
 uargs:SV.usesL I.known I.args=true
 ent:∀ (j:Nat) (E:SO),I.ents[j]? = some E->∃ e,H[I.big j]? = some e/\Taken I.big E e
 uent:∀ (j:Nat) (E:SO),I.ents[j]? = some E->E.CUses I.known
def Ifc.val (I:Ifc) (β:Val):Val:=fun j=>if I.known j then β (I.big j) else none
def Ifc.owns (I:Ifc) (β:Val) (b:Nat):Prop:=∃ (j:Nat) (c:Cells) (w:Bool) (el:TypeId) (l:Loc),I.ents[j]? = some (.own c w el)/\β (I.big j)=some l/\l.blk=b
theorem Ifc.known_iff (I:Ifc) (j:Nat):I.known j=true↔j<I.names.length:=by
 unfold Ifc.known
 rw [qha]
 constructor
 . intro h; have:=Nat.le_of_ble_eq_true h; omega
 . intro h; exact Nat.ble_eq_true_of_le h
theorem Ifc.val_known {I:Ifc} {β:Val}:∀ n,I.known n=true->β (I.big n)=I.val β n:=fun n h=>by unfold Ifc.val; rw [if_pos h]
theorem Ifc.big_get {I:Ifc} {j:Nat} (h:j<I.names.length):I.names[j]? = some (I.big j):=by
 unfold Ifc.big
 rw [qca,List.getElem?_eq_getElem h]; rfl
theorem World.cell_of_block {w w':World} {a:Addr} (h:w'.heap[a.block]? = w.heap[a.block]?):w'.cell? a=w.cell? a:=by
 unfold World.cell?
 rw [h]
theorem Ifc.heap {P:Program} {O:Nat->Prop} {w0 w:World} {β:Val} {H:List SO} {I:Ifc} (h:HeapRel0 P O w0 β H w) (hI:I.Fits H):HeapRel P (I.owns β) w (I.val β) I.ents w:=by
 have hj:∀ (j:Nat) (E:SO),I.ents[j]? = some E->j<I.names.length:=fun j E he=>by
  rw [← hI.len]; exact (List.getElem?_eq_some_iff.1 he).1
 have hval:∀ (j:Nat) (E:SO),I.ents[j]? = some E->I.val β j=β (I.big j):=fun j E he=>by
  exact (Ifc.val_known j ((I.known_iff j).2 (hj j E he))).symm
 have hne:∀ (i j:Nat) (E E':SO),I.ents[i]? = some E->I.ents[j]? = some E'->i≠j->I.big i≠I.big j:=fun i j E E' h1 h2 hij heq =>
  hij (hI.nodup i j (I.big i) (Ifc.big_get (hj i E h1)) (by rw [heq]; exact Ifc.big_get (hj j E' h2)))
 refine ⟨⟨fun n E hn => ?_,fun n m E E' l l' hn hm ho ho' hnm hl hl' => ?_,fun n E l hn ho hl => ?_,⟨rfl,rfl,rfl,Nat.le_refl _,Nat.le_refl _,fun _ _ _=>rfl⟩⟩,fun n hn => ?_⟩
 . obtain ⟨e,he,ht⟩:=hI.ent n E hn
   have hu:=hI.uent n E hn
   have hv:=hval n E hn
   have h0:=h.entries _ e he
   cases E with
   | own c wh el =>
     obtain ⟨c0,rfl,himp⟩:=ht
     obtain ⟨l,vs,rest,lo,hi,hl,h0',hc,hh,hfz,hw,hcap⟩:=h0
     exact ⟨l,vs,rest,lo,hi,hv.trans hl,h0',(CellsRel.ren hu Ifc.val_known).1 (himp _ _ hc),hh,hfz,hw,hcap⟩
   | row c =>
     have htake:∀ (vs:List Value) (k i:Nat) (x:Value),(vs.take k)[i]? = some x->vs[i]? = some x:=by
      intro vs k i x h
      rw [List.getElem?_take] at h
      split at h
      . exact h
      . cases h
     obtain ⟨c0,ht,himp⟩:=ht
     rcases ht with rfl | ⟨wh,el,rfl⟩
     . obtain ⟨l,vs,hl,hc,hx⟩:=h0
       obtain ⟨kk,hc⟩:=himp _ _ hc
       refine ⟨l,vs.take kk,hv.trans hl,(CellsRel.ren hu Ifc.val_known).1 hc,fun i x hi => ?_⟩
       obtain ⟨h1,h2,h3⟩:=hx i x (htake _ _ _ _ hi)
       refine ⟨Nat.lt_of_lt_of_le h1 h.keep.size,?_,?_⟩
       . rintro ⟨j,c',w',el',l',hj',hl',hb⟩
         obtain ⟨e',he',ht'⟩:=hI.ent j _ hj'
         obtain ⟨c1,rfl,_⟩:=ht'
         rcases h.fresh _ _ l' he' rfl hl' with h4 | h4
         . omega
         . exact h2 (hb▸h4)
       . rw [World.cell_of_block (h.keep.block _ h1 h2)]; exact h3
     . obtain ⟨l,vs,rest,lo,hi,hl,h0',hc,hh,hfz,hw,hcap⟩:=h0
       obtain ⟨kk,hc⟩:=himp _ _ hc
       refine ⟨l,vs.take kk,hv.trans hl,(CellsRel.ren hu Ifc.val_known).1 hc,fun i x hi0=>⟨(Array.getElem?_eq_some_iff.1 hh).1,?_,?_⟩⟩
       . rintro ⟨j,c',w',el',l',hj',hl',hb⟩
         obtain ⟨e',he',ht'⟩:=hI.ent j _ hj'
         obtain ⟨c1,rfl,_⟩:=ht'
         by_cases hnj:n=j
         . subst hnj; rw [hn] at hj'; cases hj'
         . exact h.sep _ _ _ _ l l' he he' rfl rfl (hne n j _ _ hn hj' hnj) hl hl' hb.symm
       . unfold World.cell?
         rw [hh,h0',Nat.zero_add]
         have hi':=htake _ _ _ _ hi0
         have hlt:=(List.getElem?_eq_some_iff.1 hi').1
         simp only [List.getElem?_toArray,List.getElem?_append_left hlt,hi']
         rfl
   | loop=>exact hu.elim
   | deferred=>exact hu.elim
   | gone=>trivial
   | obj=>exact hu.elim
 . obtain ⟨e,he,ht⟩:=hI.ent n E hn
   obtain ⟨e',he',ht'⟩:=hI.ent m E' hm
   rw [hval n E hn] at hl
   rw [hval m E' hm] at hl'
   cases E with
   | own c wh el =>
     cases E' with
     | own c' wh' el' =>
       obtain ⟨c1,rfl,_⟩:=ht
       obtain ⟨c2,rfl,_⟩:=ht'
       exact h.sep _ _ _ _ l l' he he' rfl rfl (hne n m _ _ hn hm hnm) hl hl'
     | row=>cases ho'
     | loop=>exact (hI.uent m _ hm).elim
     | deferred=>exact (hI.uent m _ hm).elim
     | gone=>cases ho'
     | obj=>exact (hI.uent m _ hm).elim
   | row=>cases ho
   | loop=>exact (hI.uent n _ hn).elim
   | deferred=>exact (hI.uent n _ hn).elim
   | gone=>cases ho
   | obj=>exact (hI.uent n _ hn).elim
 . rw [hval n E hn] at hl
   cases E with
   | own c wh el=>exact .inr ⟨n,c,wh,el,l,hn,hl,rfl⟩
   | row=>cases ho
   | loop=>exact (hI.uent n _ hn).elim
   | deferred=>exact (hI.uent n _ hn).elim
   | gone=>cases ho
   | obj=>exact (hI.uent n _ hn).elim
 . unfold Ifc.val
   rw [if_neg]
   rw [I.known_iff,← hI.len]; omega
def idxN (k:Nat) (l:List Nat):Nat:=List.rec (motive:=fun _=>Nat) 0 (fun a _ ih=>boolC (Nat.beq a k) 0 (Nat.succ ih)) l
def Ifc.out (I:Ifc) (base:Nat) (keep:List Nat) (j:Nat):Nat:=boolC (I.known j) (I.big j) (base+idxN j keep)
def Ifc.seen (I:Ifc) (keep:List Nat) (j:Nat):Bool:=boolC (I.known j) true (memN j keep)
def qge (p:Nat->Bool) (g:Nat->Nat) (E:Option SO) (e:SO):Prop:=∃ c w el c',E=some (.own c w el)/\c.Uses p/\(c.ren g).Imp c'/\e=.own c' w el
structure Ifc.Out (I:Ifc) (base:Nat) (turn keep:List Nat) (r:SumRes) (v:SV) (H:List SO):Prop where
 val:(v.ren (I.out base keep)).Imp r.v
 uv:v.uses (I.seen keep)=true
 setsLen:r.sets.length=turn.length
 sets:∀ (i j:Nat),turn[i]? = some j->∃ e,r.sets[i]? = some (I.big j,e)/\qge (I.seen keep) (I.out base keep) H[j]? e
 newsLen:r.news.length=keep.length
 news:∀ (i j:Nat),keep[i]? = some j->∃ e,r.news[i]? = some e/\qge (I.seen keep) (I.out base keep) H[j]? e
theorem qrg {k:Nat} {l:List Nat} (h:k∈l):l[idxN k l]? = some k:=by
 induction l with
 | nil=>cases h
 | cons a l ih =>
   show (a::l)[boolC (Nat.beq a k) 0 (Nat.succ (idxN k l))]? = _
   by_cases ha:a=k
   . subst ha; rw [show Nat.beq a a=true from Nat.beq_refl a]; rfl
   . rw [show Nat.beq a k=false from Bool.eq_false_iff.2 fun h=>ha (Nat.eq_of_beq_eq_true h)]
     simpa using ih ((List.mem_cons.1 h).resolve_left fun e=>ha e.symm)
theorem memN_iff {n:Nat} {l:List Nat}:memN n l=true↔n∈l:=by
 constructor
 . intro h
   induction l with
   | nil=>cases h
   | cons a l ih =>
     have h':boolC (Nat.beq a n) true (memN n l)=true:=h
     by_cases ha:a=n
     . subst ha; exact List.mem_cons_self
     . rw [show Nat.beq a n=false from Bool.eq_false_iff.2 fun h=>ha (Nat.eq_of_beq_eq_true h)] at h'
       exact List.mem_cons_of_mem _ (ih h')
 . exact qpg
theorem qks {c:Cfg} {O:Nat->Prop} {w0 w:World} {β:Val} {H:List SO} {base:Nat} {f:FuncId} {vs:List Value} (hH:HeapRel0 c.P O w0 β H w)
  (I:Ifc) (hgl:∀ g j,c.glob g=some j->I.known j=true/\∃ l,β (I.big j)=some l/\l.blk=g/\l.off=0) (ha:SV.denL β (SV.renL I.big I.args)=some vs) (hI:I.Fits H) {r:SumRes} (turn keep:List Nat) (ht1:∀ (j:Nat) c w el,I.ents[j]? = some (.own c w el)->j∈turn) (ht2:∀ j∈turn,∃ c w el,I.ents[j]? = some (.own c w el)) (hk:∀ j∈keep,I.names.length<=j) (hkn:keep.Nodup) (htn:turn.Nodup:=by simp)
  (hbody:∃ fn,c.P.funcs[f]? = some fn/\fn.body.isSome=true)
  (hrun:HeapRel c.P (I.owns β) w (I.val β) I.ents w->GlobRel c.glob (I.val β)->SV.denL (I.val β) I.args=some vs->Calls c.P f vs.toArray w (Came c.P (I.owns β) w (I.val β) (I.Out base turn keep r))):SumSem c.P H β w base f vs r:=by
 intro hfree
 have hH':=Ifc.heap hH hI
 have ha':SV.denL (I.val β) I.args=some vs:=by
  rw [SV.denL_ren,SV.denL_uses Ifc.val_known _ hI.uargs] at ha; exact ha
 have hcalls:=hrun hH' (fun g j hg=>let ⟨hk,l,h1,h2⟩:=hgl g j hg; ⟨l,by rw [← Ifc.val_known j hk]; exact h1,h2⟩) ha'
 have hown:∀ j∈turn,∃ cb wb el l vs rest lo hi,H[I.big j]? = some (.own cb wb el)/\β (I.big j)=some l/\I.val β j=some l/\j<I.names.length/\w.heap[l.blk]? = some (.cells (vs++rest:List Value).toArray el (lo,hi)):=by
  intro j hj
  obtain ⟨cc,ww,el,he⟩:=ht2 j hj
  obtain ⟨e,he',ht⟩:=hI.ent j _ he
  obtain ⟨c1,rfl,_⟩:=ht
  obtain ⟨l,vs,rest,lo,hi,hl,_,_,hh,_⟩:=hH.entries _ _ he'
  have hjl:j<I.names.length:=by rw [← hI.len]; exact (List.getElem?_eq_some_iff.1 he).1
  exact ⟨_,_,_,l,vs,rest,lo,hi,he',hl,by rw [← Ifc.val_known j ((I.known_iff j).2 hjl)]; exact hl,hjl,hh⟩
 have hsets:∀ (v:SV) (H'':List SO),I.Out base turn keep r v H''->∀ m e,(m,e)∈r.sets->∃ j∈turn,m=I.big j/\qge (I.seen keep) (I.out base keep) H''[j]? e/\∃ i:Nat,turn[i]? = some j/\r.sets[i]? = some (m,e):=by
  intro v H'' hout m e hm
  obtain ⟨i,hi⟩:=List.mem_iff_getElem?.1 hm
  have hil:=(List.getElem?_eq_some_iff.1 hi).1
  rw [hout.setsLen] at hil
  obtain ⟨e',h1,h2⟩:=hout.sets i _ (List.getElem?_eq_getElem hil)
  rw [hi] at h1
  cases h1
  exact ⟨_,List.getElem_mem hil,rfl,h2,i,List.getElem?_eq_getElem hil,hi⟩
 refine ⟨?_,.inl ⟨hbody,?_⟩⟩
 . intro m e hm
   obtain ⟨e',w',fr,hcame,_⟩:=hcalls []
   obtain ⟨v,H'',x,β'',_,hout,_⟩:=hcame
   obtain ⟨j,hj,rfl,_⟩:=hsets v H'' hout m e hm
   obtain ⟨cb,wb,el,l,vs,rest,lo,hi,h1,_⟩:=hown j hj
   exact ⟨_,h1,rfl⟩
 . intro cs
   obtain ⟨e',w',fr,hcame,hst⟩:=hcalls cs
   refine ⟨e',w',fr,?_,hst⟩
   obtain ⟨v,H'',x,β'',rfl,hout,hle,hv,hH2⟩:=hcame
   let βb:Val:=fun n=>if base<=n/\n<base+keep.length then (keep[n - base]?).bind β'' else β n
   have hlenn:r.news.length=keep.length:=hout.newsLen
   have hfree':∀ i,i<keep.length->β (base+i)=none:=fun i hi=>hfree i (by rw [hlenn]; exact hi)
   have hβle:β.le βb:=by
    intro n l hn
    show (if _ then _ else _)=_
    rw [if_neg]
    . exact hn
    . rintro ⟨h1,h2⟩
      have:=hfree' (n - base) (by omega)
      rw [show base+(n - base)=n from by omega,hn] at this; cases this
   have hseen:∀ j,I.seen keep j=true->βb (I.out base keep j)=β'' j:=by
    intro j hj
    unfold Ifc.seen at hj
    unfold Ifc.out
    cases hkn':I.known j with
    | true =>
      rw [boolC_true]
      have hjl:=(I.known_iff j).1 hkn'
      obtain ⟨E,hE⟩:∃ E,I.ents[j]? = some E:=⟨_,List.getElem?_eq_getElem (by rw [hI.len]; exact hjl)⟩
      obtain ⟨e,he,htk⟩:=hI.ent j E hE
      have hsome:∃ l,β (I.big j)=some l:=by
       have h0:=hH.entries _ e he
       have hu:=hI.uent j E hE
       have hplaced:e.placed=true:=by
        cases E with
        | own cc ww el=>obtain ⟨c1,rfl,_⟩:=htk; rfl
        | row cc=>obtain ⟨c1,rfl | ⟨ww,el,rfl⟩,_⟩:=htk <;> rfl
        | loop=>exact hu.elim
        | deferred=>exact hu.elim
        | gone=>exact htk
        | obj=>exact hu.elim
       cases e with
       | own cc ww el=>obtain ⟨l,_,_,_,_,hl,_⟩:=h0; exact ⟨l,hl⟩
       | row cc=>obtain ⟨l,_,hl,_⟩:=h0; exact ⟨l,hl⟩
       | loop=>cases hplaced
       | deferred=>cases hplaced
       | gone=>cases hplaced
       | obj=>cases hplaced
      obtain ⟨l,hl⟩:=hsome
      rw [hβle _ _ hl]
      have:I.val β j=some l:=by rw [← Ifc.val_known j hkn']; exact hl
      rw [hle _ _ this]
    | false =>
      rw [hkn',boolC_false,memN_iff] at hj
      rw [boolC_false]
      have h1:=qrg hj
      have h2:=(List.getElem?_eq_some_iff.1 h1).1
      show (if _ then _ else _)=_
      rw [if_pos (by omega),show base+idxN j keep - base=idxN j keep from by omega,h1]; rfl
   have hrenOwn:∀ (j:Nat) (e:SO),qge (I.seen keep) (I.out base keep) H''[j]? e->I.seen keep j=true->e.owned=true/\OwnRel c.P βb w' (I.out base keep j) e:=by
    intro j e hg hs
    obtain ⟨cc,ww,el,c',he,hu,himp,rfl⟩:=hg
    obtain ⟨l,vs,rest,lo,hi,hl,h0,hcl,hh,hfz,hw,hcap⟩:=hH2.entries j _ he
    exact ⟨rfl,l,vs,rest,lo,hi,(hseen j hs).trans hl,h0,himp _ _ ((CellsRel.ren hu hseen).2 hcl),hh,hfz,hw,hcap⟩
   have hseenT:∀ j∈turn,I.seen keep j=true/\I.out base keep j=I.big j:=by
    intro j hj
    obtain ⟨_,_,_,_,_,_,_,_,_,_,_,hjl,_⟩:=hown j hj
    have:=(I.known_iff j).2 hjl
    unfold Ifc.seen Ifc.out
    rw [this]; exact ⟨rfl,rfl⟩
   have hseenK:∀ j∈keep,I.seen keep j=true/\I.known j=false:=by
    intro j hj
    have hnk:I.known j=false:=by
     cases hx:I.known j with
     | false=>rfl
     | true=>have:=(I.known_iff j).1 hx; have:=hk j hj; omega
    unfold Ifc.seen
    rw [hnk]; exact ⟨qpg hj,rfl⟩
   have hnewsAt:∀ (i:Nat) (e:SO),r.news[i]? = some e->∃ j,keep[i]? = some j/\qge (I.seen keep) (I.out base keep) H''[j]? e:=by
    intro i e hi
    have hil:=(List.getElem?_eq_some_iff.1 hi).1
    rw [hlenn] at hil
    obtain ⟨e',h1,h2⟩:=hout.news i _ (List.getElem?_eq_getElem hil)
    rw [hi] at h1; cases h1
    exact ⟨_,List.getElem?_eq_getElem hil,h2⟩
   refine ⟨x,βb,rfl,?_,⟨hβle,hH2.keep.os,hH2.keep.tape,hH2.keep.output,hH2.keep.drawn,hH2.keep.size,?_,?_,?_,?_,?_,?_⟩⟩
   . refine hout.val _ _ ?_
     rw [SV.den_ren,SV.den_uses hseen _ hout.uv]; exact hv
   . intro n hn
     rw [hlenn] at hn
     show (if _ then _ else _)=_
     rw [if_neg (by omega)]
   . intro b hb hno
     refine hH2.keep.block b hb ?_
     rintro ⟨j,cc,ww,el,l,hj,hl,rfl⟩
     have hjt:=ht1 j cc ww el hj
     obtain ⟨i,hi⟩:=List.mem_iff_getElem?.1 hjt
     obtain ⟨e,he,_⟩:=hout.sets i j hi
     exact hno (I.big j) e l (List.mem_of_getElem? he) hl rfl
   . intro m e e' h1 h2
     obtain ⟨j,hj,hm1,hg1,i1,ht1',hs1⟩:=hsets v H'' hout m e h1
     obtain ⟨k,hk',hm2,hg2,i2,ht2',hs2⟩:=hsets v H'' hout m e' h2
     obtain ⟨_,_,_,_,_,_,_,_,_,_,_,hjl,_⟩:=hown j hj
     obtain ⟨_,_,_,_,_,_,_,_,_,_,_,hkl,_⟩:=hown k hk'
     have hjk:k=j:=hI.nodup k j (I.big k) (Ifc.big_get hkl) (by rw [← hm2,hm1]; exact Ifc.big_get hjl)
     subst hjk
     have:i1=i2:=(List.getElem?_inj (List.getElem?_eq_some_iff.1 ht1').1 htn).1 (ht1'.trans ht2'.symm)
     subst this
     rw [hs1] at hs2
     exact (Prod.mk.inj (Option.some.inj hs2)).2
   . intro m e hm
     obtain ⟨j,hj,rfl,hg,_⟩:=hsets v H'' hout m e hm
     obtain ⟨hs,hb⟩:=hseenT j hj
     rw [← hb]
     exact (hrenOwn j e hg hs).2
   . intro i e hi
     obtain ⟨j,hj,hg⟩:=hnewsAt i e hi
     have hjm:=List.mem_of_getElem? hj
     obtain ⟨hs,hnk⟩:=hseenK j hjm
     have hout':I.out base keep j=base+i:=by
      unfold Ifc.out
      rw [hnk,boolC_false]
      have h1:=qrg hjm
      have:idxN j keep=i:=(List.getElem?_inj (List.getElem?_eq_some_iff.1 h1).1 hkn).1 (h1.trans hj.symm)
      rw [this]
     obtain ⟨ho,hor⟩:=hrenOwn j e hg hs
     refine ⟨ho,hout'▸hor,?_⟩
     obtain ⟨cc,ww,el,c',he,_⟩:=hg
     obtain ⟨l,vs2,rest,lo,hi2,hl,_⟩:=hH2.entries j _ he
     refine ⟨l,by rw [← hout',hseen j hs]; exact hl,.inl ?_⟩
     rcases hH2.fresh j _ l he rfl hl with h1 | ⟨k,ck,wk,ek,lk,hk1,hk2,hk3⟩
     . exact h1
     . exfalso
       have hkt:=ht1 k ck wk ek hk1
       obtain ⟨i3,hi3⟩:=List.mem_iff_getElem?.1 hkt
       obtain ⟨_,_,c2,w2,e2,_,he2,_⟩:=hout.sets i3 k hi3
       obtain ⟨_,_,_,l2,_,_,_,_,_,hb2,hv2,hkl,_⟩:=hown k hkt
       rw [hb2] at hk2; cases hk2
       refine hH2.sep k j _ _ lk l he2 he rfl rfl ?_ (hle _ _ hv2) hl hk3
       have:=hk j hjm; omega
   . intro i j l l' hij hi hj hl hl'
     rw [hlenn] at hi hj
     have hone:∀ i,i<keep.length->∀ l,βb (base+i)=some l->∃ k,keep[i]? = some k/\β'' k=some l:=by
      intro i hi l hl
      have hl:(if base<=base+i/\base+i<base+keep.length then (keep[base+i - base]?).bind β'' else β (base+i))=some l:=hl
      rw [if_pos (by omega),show base+i - base=i from by omega,List.getElem?_eq_getElem hi] at hl
      exact ⟨_,List.getElem?_eq_getElem hi,hl⟩
     obtain ⟨k1,hk1,hb1⟩:=hone i hi l hl
     obtain ⟨k2,hk2,hb2⟩:=hone j hj l' hl'
     obtain ⟨_,_,c1,w1,e1,_,he1,_⟩:=hout.news i k1 hk1
     obtain ⟨_,_,c2,w2,e2,_,he2,_⟩:=hout.news j k2 hk2
     refine hH2.sep k1 k2 _ _ l l' he1 he2 rfl rfl (fun h => ?_) hb1 hb2
     subst h
     exact hij ((List.getElem?_inj (List.getElem?_eq_some_iff.1 hk1).1 hkn).1 (hk1.trans hk2.symm))
theorem qnk {P:Program} {f:FuncId} {args:List SV} {g:SF} (h:q7d P f args=some g):∃ fn,P.funcs[f]? = some fn/\fn.body.isSome=true:=by
 unfold q7d at h
 rw [qca,Array.getElem?_toList] at h
 cases hf:P.funcs[f]? with
 | none=>rw [hf] at h; cases h
 | some fn =>
   refine ⟨fn,rfl,?_⟩
   rw [hf] at h
   cases hb:fn.body with
   | none=>simp only [optC_some,hb,optC_none] at h; cases h
   | some b=>rfl
theorem qu6 {c:Cfg} (hc:CfgOK c) {n:Nat} {O:Nat->Prop} {w0 w:World} {β:Val} {H:List SO} {base:Nat} {f:FuncId} {vs:List Value} (hH:HeapRel0 c.P O w0 β H w)
  (I:Ifc) (hgl:∀ g j,c.glob g=some j->I.known j=true/\∃ l,β (I.big j)=some l/\l.blk=g/\l.off=0) (ha:SV.denL β (SV.renL I.big I.args)=some vs) (hI:I.Fits H) {r:SumRes} (turn keep:List Nat) (ht1:∀ (j:Nat) c w el,I.ents[j]? = some (.own c w el)->j∈turn) (ht2:∀ j∈turn,∃ c w el,I.ents[j]? = some (.own c w el)) (hk:∀ j∈keep,I.names.length<=j) (hkn:keep.Nodup) (htn:turn.Nodup:=by simp)
  (hob:(qfa c n f I.args I.ents).Ob (I.Out base turn keep r) fun _=>False):SumSem c.P H β w base f vs r:=by
 refine qks hH I hgl ha hI turn keep ht1 ht2 hk hkn htn ?_ fun hH' hG ha'=>qrq hc hH' hG ha' hob
 unfold qfa at hob
 cases hg:q7d c.P f I.args with
 | none=>rw [hg] at hob; exact hob.elim
 | some g=>exact qnk hg
theorem SV.imp_of_eq {c d:SV} (h:c=d):c.Imp d:=h▸.refl c
end
noncomputable section
variable {α:Type}
def EntsOK (f:Nat->Nat) (p:Nat->Bool) (H:List SO):List Nat->List SO->Prop
 | n::ns,E::Es=>((∃ e,H[n]? = some e/\Taken f E e)/\E.CUses p)/\EntsOK f p H ns Es
 | [],[]=>True
 | _,_=>False
theorem EntsOK.length {f:Nat->Nat} {p:Nat->Bool} {H:List SO}:∀ {ns:List Nat} {Es:List SO},EntsOK f p H ns Es->Es.length=ns.length
 | [],[],_=>rfl
 | _::_,_::_,h=>by simp only [List.length_cons]; rw [EntsOK.length h.2]
 | [],_::_,h=>h.elim
 | _::_,[],h=>h.elim
theorem EntsOK.get {f:Nat->Nat} {p:Nat->Bool} {H:List SO}:∀ {ns:List Nat} {Es:List SO},EntsOK f p H ns Es->∀ (j:Nat) (E:SO),Es[j]? = some E->(∃ e,H[(nth ns j).getD 0]? = some e/\Taken f E e)/\E.CUses p
 | [],[],_,j,E,h=>by simp at h
 | n::ns,E'::Es,h,0,E,hE=>by simp at hE; subst hE; exact h.1
 | n::ns,E'::Es,h,j+1,E,hE=>by
   have:=EntsOK.get h.2 j E (by simpa using hE)
   rw [qca] at this ⊢
   simpa using this
 | [],_::_,h,_,_,_=>h.elim
 | _::_,[],h,_,_,_=>h.elim
theorem Ifc.fits {I:Ifc} {H:List SO} (hn:I.names.Nodup) (hu:SV.usesL I.known I.args=true) (he:EntsOK I.big I.known H I.names I.ents):I.Fits H :=
 ⟨he.length,fun _ _ _ hi hj=>(List.getElem?_inj (List.getElem?_eq_some_iff.1 hi).1 hn).1 (hi.trans hj.symm),hu,fun j E hE=>(he.get j E hE).1,fun j E hE=>(he.get j E hE).2⟩
def SO.isOwn:SO->Bool
 | .own _ _ _=>true
 | _=>false
def qwd:List SO->Nat->List Nat
 | [],_=>[]
 | E::Es,k=>if E.isOwn then k::qwd Es (k+1) else qwd Es (k+1)
theorem qye:∀ (Es:List SO) (k j:Nat),j∈qwd Es k↔∃ i c w el,j=k+i/\Es[i]? = some (.own c w el)
 | [],k,j=>by simp [qwd]
 | E::Es,k,j=>by
   have ih:=qye Es (k+1) j
   have hstep:(∃ i c w el,j=k+1+i/\Es[i]? = some (SO.own c w el))->∃ i c w el,j=k+i/\(E::Es)[i]? = some (SO.own c w el):=fun ⟨i,c,w,el,h,h'⟩=>⟨i+1,c,w,el,by omega,by simpa using h'⟩
   unfold qwd
   split
   . rename_i ho
     rw [List.mem_cons,ih]
     constructor
     . rintro (rfl | h)
       . cases E <;> first | (cases ho; done) | exact ⟨0,_,_,_,rfl,rfl⟩
       . exact hstep h
     . rintro ⟨i,c,w,el,h,h'⟩
       cases i with
       | zero=>exact .inl h
       | succ i=>exact .inr ⟨i,c,w,el,by omega,by simpa using h'⟩
   . rename_i ho
     rw [ih]
     constructor
     . exact hstep
     . rintro ⟨i,c,w,el,h,h'⟩
       cases i with
       | zero=>simp at h'; subst h'; exact absurd rfl ho
       | succ i=>exact ⟨i,c,w,el,by omega,by simpa using h'⟩
theorem q4g:∀ (Es:List SO) (k:Nat),(qwd Es k).Nodup
 | [],k=>by simp [qwd]
 | E::Es,k=>by
   unfold qwd
   split
   . refine List.nodup_cons.2 ⟨fun h => ?_,q4g Es (k+1)⟩
     obtain ⟨i,_,_,_,h,_⟩:=(qye Es (k+1) k).1 h
     omega
   . exact q4g Es (k+1)
def SetsOK (big:Nat->Nat) (p:Nat->Bool) (g:Nat->Nat) (H:List SO):List Nat->List (Nat × SO)->Prop
 | j::js,x::rs=>(x.1=big j/\qge p g H[j]? x.2)/\SetsOK big p g H js rs
 | [],[]=>True
 | _,_=>False
def NewsOK (p:Nat->Bool) (g:Nat->Nat) (H:List SO):List Nat->List SO->Prop
 | j::js,e::rs=>qge p g H[j]? e/\NewsOK p g H js rs
 | [],[]=>True
 | _,_=>False
theorem SetsOK.length {big p g H}:∀ {js:List Nat} {rs:List (Nat × SO)},SetsOK big p g H js rs->rs.length=js.length
 | [],[],_=>rfl
 | _::_,_::_,h=>by simp only [List.length_cons]; rw [SetsOK.length h.2]
 | [],_::_,h=>h.elim
 | _::_,[],h=>h.elim
theorem SetsOK.get {big p g H}:∀ {js:List Nat} {rs:List (Nat × SO)},SetsOK big p g H js rs->∀ (i j:Nat),js[i]? = some j->∃ e,rs[i]? = some (big j,e)/\qge p g H[j]? e
 | [],[],_,i,j,h=>by simp at h
 | j'::js,x::rs,h,0,j,hE=>by simp at hE; subst hE; exact ⟨x.2,by simp [← h.1.1],h.1.2⟩
 | j'::js,x::rs,h,i+1,j,hE=>by
   obtain ⟨e,a,b⟩:=SetsOK.get h.2 i j (by simpa using hE)
   exact ⟨e,by simpa using a,b⟩
 | [],_::_,h,_,_,_=>h.elim
 | _::_,[],h,_,_,_=>h.elim
theorem NewsOK.length {p g H}:∀ {js:List Nat} {rs:List SO},NewsOK p g H js rs->rs.length=js.length
 | [],[],_=>rfl
 | _::_,_::_,h=>by simp only [List.length_cons]; rw [NewsOK.length h.2]
 | [],_::_,h=>h.elim
 | _::_,[],h=>h.elim
theorem NewsOK.get {p g H}:∀ {js:List Nat} {rs:List SO},NewsOK p g H js rs->∀ (i j:Nat),js[i]? = some j->∃ e,rs[i]? = some e/\qge p g H[j]? e
 | [],[],_,i,j,h=>by simp at h
 | j'::js,x::rs,h,0,j,hE=>by simp at hE; subst hE; exact ⟨x,by simp,h.1⟩
 | j'::js,x::rs,h,i+1,j,hE=>by
   obtain ⟨e,a,b⟩:=NewsOK.get h.2 i j (by simpa using hE)
   exact ⟨e,by simpa using a,b⟩
 | [],_::_,h,_,_,_=>h.elim
 | _::_,[],h,_,_,_=>h.elim
structure Ifc.Ends (I:Ifc) (base:Nat) (keep:List Nat) (r:SumRes) (v:SV) (H:List SO):Prop where
 val:(v.ren (I.out base keep)).Imp r.v
 uv:v.uses (I.seen keep)=true
 sets:SetsOK I.big (I.seen keep) (I.out base keep) H (qwd I.ents 0) r.sets
 news:NewsOK (I.seen keep) (I.out base keep) H keep r.news
theorem Tree.Ob.mono {t:Tree} {D D':SV->List SO->Prop} {S:SS->Prop} (h:t.Ob D S) (hd:∀ v H,D v H->D' v H):t.Ob D' S:=by
 induction t with
 | done v H=>exact hd v H h
 | stop s=>exact h
 | need p t ih=>exact ⟨h.1,ih h.2⟩
 | fork b t f iht ihf=>exact ⟨fun hb=>iht (h.1 hb),fun hb=>ihf (h.2 hb)⟩
 | stuck n=>exact h
 | any k ih=>exact fun z=>ih z (h z)
theorem qgm {c:Cfg} (hc:CfgOK c) (n:Nat) {O:Nat->Prop} {w0 w:World} {β:Val} {H:List SO} {base:Nat} {f:FuncId} {vs:List Value} (hH:HeapRel0 c.P O w0 β H w)
  (I:Ifc) (hgl:∀ g j,c.glob g=some j->I.known j=true/\∃ l,β (I.big j)=some l/\l.blk=g/\l.off=0) (ha:SV.denL β (SV.renL I.big I.args)=some vs) (hI:I.Fits H) {r:SumRes} (keep:List Nat) (hk:∀ j∈keep,I.names.length<=j) (hkn:keep.Nodup)
  (hob:(qfa c n f I.args I.ents).Ob (I.Ends base keep r) fun _=>False):SumSem c.P H β w base f vs r:=by
 refine qu6 hc (n:=n) hH I hgl ha hI (qwd I.ents 0) keep (fun j c w el h=>(qye _ _ _).2 ⟨j,c,w,el,by omega,h⟩) (fun j hj => ?_) hk hkn (q4g _ _) ?_
 . obtain ⟨i,c,w,el,h,h'⟩:=(qye _ _ _).1 hj
   exact ⟨c,w,el,by rw [h,Nat.zero_add]; exact h'⟩
 . refine hob.mono fun v H' h=>⟨h.val,h.uv,h.sets.length,h.sets.get,h.news.length,h.news.get⟩
theorem qu0 {c:Cfg} (hc:CfgOK c) (hgl:c.glob=fun _=>none) (n:Nat) {O:Nat->Prop} {w0 w:World} {β:Val} {H:List SO} {base:Nat} {f:FuncId} {vs:List Value} (hH:HeapRel0 c.P O w0 β H w)
  (I:Ifc) (ha:SV.denL β (SV.renL I.big I.args)=some vs) (hI:I.Fits H) {r:SumRes} (keep:List Nat) (hk:∀ j∈keep,I.names.length<=j) (hkn:keep.Nodup)
  (hob:(qfa c n f I.args I.ents).Ob (I.Ends base keep r) fun _=>False):SumSem c.P H β w base f vs r :=
 qgm hc n hH I (fun g j h=>by rw [hgl] at h; cases h) ha hI keep hk hkn hob
theorem qv6 {p:Nat->Bool} {g:Nat->Nat} {E:Option SO} {c:Cells} {w:Bool} {el:TypeId} {e:SO} (hE:E=some (.own c w el)) (hu:c.Uses p) (he:(SO.own c w el).ren g=e):qge p g E e :=
 ⟨c,w,el,_,hE,hu,.refl _,he.symm⟩
theorem qei {f:Nat->Nat} {c c0:Cells} {e:SO} (h:e=.row c0\/∃ w el,e=.own c0 w el) (hi:c0.Front (c.ren f)):Taken f (.row c) e:=⟨c0,h,hi⟩
end
noncomputable section
variable {α β:Type}
theorem q9e {b:Bool} {f g:R α} {φ:α->Prop} (h:b=true->f.Sat φ) (h':b=false->g.Sat φ):(boolC b f g).Sat φ:=by cases b <;> first | exact h rfl | exact h' rfl
theorem qta {b:Bool} {f:R α} {n:Nat} {φ:α->Prop} (h:b=true->f.Sat φ):(boolC b f (.stuck n)).Sat φ:=q9e h fun _=>trivial
theorem qka {o:Option β} {f:β->R α} {n:Nat} {φ:α->Prop} (h:∀ a,o=some a->(f a).Sat φ):(optC o (.stuck n) f).Sat φ:=by
 cases o with
 | none=>trivial
 | some a=>exact h a rfl
theorem qzb {b:Bool} {f:Option α} {s:α} (h:boolC b f none=some s):b=true/\f=some s:=by
 cases b with
 | true=>exact ⟨rfl,h⟩
 | false=>cases h
theorem qaf {o:Option β} {f:β->Option α} {s:α} (h:optC o none f=some s):∃ a,o=some a/\f a=some s:=by
 cases o with
 | none=>cases h
 | some a=>exact ⟨a,rfl,h⟩
theorem qpc {b:Bool} {f g:Option α} {s:α} (h:boolC b f g=some s):(b=true/\f=some s)\/g=some s:=by
 cases b with
 | true=>exact .inl ⟨rfl,h⟩
 | false=>exact .inr h
theorem eqI_spec {x y:Int} (h:eqI x y=true):x=y:=by rw [qzk] at h; simpa using h
theorem q0b {x y:Nat} (h:Nat.beq x y=true):x=y:=Nat.eq_of_beq_eq_true h
theorem qw6 {x y:Nat} (h:Nat.beq x y=false):x≠y:=fun e=>by subst e; rw [Nat.beq_refl] at h; cases h
theorem qcy {x y:Nat} (h:Nat.blt x y=true):x<y:=Nat.le_of_ble_eq_true h
theorem qbf {k k':IntKind} (h:eqK k k'=true):k=k':=by cases k <;> cases k' <;> first | rfl | cases h
def bx (l:List (BitVec 8)):List SV:=mapN (fun x=>.int .u8 (.b8 x)) l
def lx (l:List Int):List SV:=mapN (fun x=>.int .u8 (.lit x)) l
theorem q1z (v:SV):(∃ b,v=.ptr b)\/∀ {γ:Type} (d:γ) (f:SA->γ),v.asPtr d f=d:=by
 cases v <;> first | exact .inl ⟨_,rfl⟩ | exact .inr fun _ _=>rfl
theorem qu9 {v:SV} {x:BitVec 8} (h:unb1 v=some x):∃ n,v=.int .u8 n/\si8 n=some x:=by
 unfold unb1 at h
 rcases q1b v with ⟨k,n,rfl⟩ | hv
 . obtain ⟨hk,h⟩:=qzb (show boolC (eqK k .u8) (si8 n) none=some x from h)
   rw [qbf hk]; exact ⟨n,rfl,h⟩
 . rw [hv] at h; cases h
theorem qv9 {v:SV} {x:BitVec 8} (h:unb1 v=some x):v.Imp (.int .u8 (.b8 x)):=by
 obtain ⟨n,rfl,hn⟩:=qu9 h
 intro γ y hy
 have hy:some (Value.int .u8 n.den)=some y:=hy
 rw [qgq hn] at hy; exact hy
theorem qla {v u:SV} {l m:List SV} (h:v.Imp u) (h':SV.ImpL l m):SV.ImpL (v::l) (u::m):=by
 intro γ vs hv
 obtain ⟨x,ys,a,b,rfl⟩:=denL_cons.1 hv
 exact denL_cons.2 ⟨x,ys,h _ _ a,h' _ _ b,rfl⟩
theorem q3b:SV.ImpL [] []:=.refl _
theorem qv0:∀ {l:List SV} {xs:List (BitVec 8)},unb l=some xs->SV.ImpL l (bx xs)
 | [],xs,h=>by cases h; exact .refl _
 | v::l,xs,h=>by
   obtain ⟨x,hx,h⟩:=qaf (show (optC (unb1 v) none fun x=>optC (unb l) none fun xs=>some (x::xs))=some xs from h)
   obtain ⟨ys,hy,h⟩:=qaf h
   cases h
   exact qla (qv9 hx) (qv0 hy)
theorem qx6 (f:Nat->Nat):∀ xs,SV.renL f (bx xs)=bx xs
 | []=>rfl
 | x::xs=>by show _::SV.renL f (bx xs)=_; rw [qx6 f xs]; rfl
theorem qw0 (p:Nat->Bool):∀ xs,SV.usesL p (bx xs)=true
 | []=>rfl
 | x::xs=>by show (true && SV.usesL p (bx xs))=true; rw [qw0 p xs]; rfl
def unl1 (v:SV):Option Int:=v.asInt none fun k n=>boolC (eqK k .u8) (n.asLit none some) none
theorem jxi {v:SV} {x:Int} (h:unl1 v=some x):v=.int .u8 (.lit x):=by
 unfold unl1 at h
 rcases q1b v with ⟨k,n,rfl⟩ | hv
 . obtain ⟨hk,h⟩:=qzb (show boolC (eqK k .u8) (n.asLit none some) none=some x from h)
   rw [qbf hk]
   cases n <;> first | (cases h; rfl) | cases h
 . rw [hv] at h; cases h
def preLit (T:List Int):List SV->Bool :=
 List.rec (motive:=fun _=>List SV->Bool) (fun _=>true) (fun t _ ih l=>List.rec (motive:=fun _=>Bool) false (fun v r _=>optC (unl1 v) false fun x=>boolC (eqI x t) (ih r) false) l) T
def qbe (e:Option SO):Option (List SV) :=
 optC e none fun e=>SO.rec (motive:=fun _=>Option (List SV)) (fun c _ _=>Cells.rec (motive:=fun _=>Option (List SV)) (fun l=>some l) (fun _ _=>none) (fun _ _=>none) c) (fun c=>Cells.rec (motive:=fun _=>Option (List SV)) (fun l=>some l) (fun _ _=>none) (fun _ _=>none) c)
  (fun _ _ _ _ _ _ _ _=>none) (fun _=>none) none (fun _=>none) e
theorem q2z {e:Option SO} {l:List SV} (h:qbe e=some l):∃ e',e=some e'/\(e'=.row (.lst l)\/∃ w el,e'=.own (.lst l) w el):=by
 cases e with
 | none=>cases h
 | some e =>
   cases e with
   | own c w el=>cases c with
     | lst l'=>cases h; exact ⟨_,rfl,.inr ⟨_,_,rfl⟩⟩
     | fn=>cases h
     | raw=>cases h
   | row c=>cases c with
     | lst l'=>cases h; exact ⟨_,rfl,.inl rfl⟩
     | fn=>cases h
     | raw=>cases h
   | loop=>cases h
   | deferred=>cases h
   | gone=>cases h
   | obj=>cases h
theorem qok {f:Nat->Nat} {l m:List SV} {e:Option SO} (h:qbe e=some l) (hi:SV.ImpL l (SV.renL f m)):∃ e',e=some e'/\Taken f (.row (.lst m)) e':=by
 obtain ⟨e',rfl,hc⟩:=q2z h
 exact ⟨e',rfl,qei hc (Cells.Imp.front (c:=.lst l) (d:=(Cells.lst m).ren f) hi)⟩
theorem qy6 {f:Nat->Nat} {l m:List SV} {w:Bool} {el:TypeId} (hi:SV.ImpL l (SV.renL f m)):Taken f (.own (.lst m) w el) (.own (.lst l) w el):=⟨_,rfl,hi⟩
def qpt (e:Option SO):Bool:=optC e false fun e=>e.placed
def qu3 (v:SV):Option Nat:=v.asPtr none fun a=>a.off.asLit none fun n=>boolC (Nat.beq n 0) (some a.nm) none
theorem qv3 {v:SV} {p:Nat} (h:qu3 v=some p):v=.ptr ⟨p,.lit 0⟩:=by
 unfold qu3 at h
 rcases q1z v with ⟨⟨q,off⟩,rfl⟩ | hv
 . have h:(off.asLit none fun n=>boolC (Nat.beq n 0) (some q) none)=some p:=h
   cases off with
   | lit n =>
     obtain ⟨hn,h⟩:=qzb (show boolC (Nat.beq n 0) (some q) none=some p from h)
     cases h; rw [q0b hn]
   | sym n=>cases h
   | byt=>cases h
 . rw [hv] at h; cases h
def qad (args:List SV) (f:SV->R α):R α:=List.rec (motive:=fun _=>R α) (.stuck 700) (fun v r _=>List.rec (motive:=fun _=>R α) (f v) (fun _ _ _=>.stuck 700) r) args
def qhe (args:List SV) (f:SV->SV->R α):R α:=List.rec (motive:=fun _=>R α) (.stuck 700) (fun v r _=>qad r (f v)) args
def qew (args:List SV) (f:SV->SV->SV->R α):R α:=List.rec (motive:=fun _=>R α) (.stuck 700) (fun v r _=>qhe r (f v)) args
theorem qob {args:List SV} {f:SV->R α} {φ:α->Prop} (h:∀ v,args=[v]->(f v).Sat φ):(qad args f).Sat φ:=by
 match args,h with
 | [],_=>trivial
 | [v],h=>exact h v rfl
 | _::_::_,_=>trivial
theorem q6b {args:List SV} {f:SV->SV->R α} {φ:α->Prop} (h:∀ v u,args=[v,u]->(f v u).Sat φ):(qhe args f).Sat φ:=by
 cases args with
 | nil=>trivial
 | cons v r=>exact qob fun u hu=>h v u (by rw [hu])
theorem q6n {args:List SV} {f:SV->SV->SV->R α} {φ:α->Prop} (h:∀ v u x,args=[v,u,x]->(f v u x).Sat φ):(qew args f).Sat φ:=by
 cases args with
 | nil=>trivial
 | cons v r=>exact q6b fun u x hu=>h v u x (by rw [hu])
def litI (v:SV):Option Nat:=v.asInt none fun k n=>boolC (eqK k .i64) (n.asLit none fun n=>intC n some fun _=>none) none
theorem qzu {v:SV} {n:Nat} (h:litI v=some n):v=.int .i64 (.lit (.ofNat n)):=by
 unfold litI at h
 rcases q1b v with ⟨k,m,rfl⟩ | hv
 . obtain ⟨hk,h⟩:=qzb (show boolC (eqK k .i64) (m.asLit none fun n=>intC n some fun _=>none) none=some n from h)
   rw [qbf hk]
   cases m with
   | lit m=>cases m with
     | ofNat m=>cases h; rfl
     | negSucc m=>cases h
   | sym=>cases h
   | b8=>cases h
   | b32=>cases h
   | b64=>cases h
 . rw [hv] at h; cases h
def outP (js:List Nat) (t:Tree):List Prop × Option (SV × List (Option SO)) :=
 Tree.rec (motive:=fun _=>List Prop × Option (SV × List (Option SO))) (fun v H=>([],some (v,mapN (fun j=>nth H j) js))) (fun _=>([],none)) (fun p _ ih=>(p::ih.1,ih.2)) (fun _ _ _ _ _=>([],none)) (fun _=>([],none)) (fun _ _=>([],none)) t
theorem qx0 {js:List Nat} {t:Tree} {ps:List Prop} {v:SV} {es:List (Option SO)} (h:outP js t=(ps,some (v,es))) (hp:∀ p∈ps,p) {D:SV->List SO->Prop} {S:SS->Prop} (hD:∀ H:List SO,js.map (fun j=>H[j]?)=es->D v H):t.Ob D S:=by
 induction t generalizing ps with
 | done v' H =>
   have h':([],some (v',mapN (fun j=>nth H j) js))=(ps,some (v,es)):=h
   have h1:=Option.some.inj (Prod.mk.inj h').2
   obtain ⟨h2,h3⟩:=Prod.mk.inj h1
   subst h2
   refine hD H ?_
   rw [qja] at h3
   rw [← h3]
   exact List.map_congr_left fun j _=>(qca H j).symm
 | stop=>cases (Prod.mk.inj (show ([],none)=(ps,some (v,es)) from h)).2
 | need p t ih =>
   have h':(p::(outP js t).1,(outP js t).2)=(ps,some (v,es)):=h
   obtain ⟨h1,h2⟩:=Prod.mk.inj h'
   subst h1
   exact ⟨hp p List.mem_cons_self,ih (ps:=(outP js t).1) (by rw [← h2]) fun q hq=>hp q (List.mem_cons_of_mem _ hq)⟩
 | fork=>cases (Prod.mk.inj (show ([],none)=(ps,some (v,es)) from h)).2
 | stuck=>cases (Prod.mk.inj (show ([],none)=(ps,some (v,es)) from h)).2
 | any=>cases (Prod.mk.inj (show ([],none)=(ps,some (v,es)) from h)).2
theorem q6j {H:List SO} {args:List SV} (hu:SV.usesL (Ifc.known ⟨[],[],args⟩) args=true):Ifc.Fits ⟨[],[],args⟩ H:=Ifc.fits (by simp) hu trivial
theorem qls {I:Ifc} {base:Nat} {v:SV} {H:List SO} (ho:qwd I.ents 0=[]) (h:v=v.ren (I.out base [])) (hu:v.uses (I.seen [])=true):I.Ends base [] ⟨v,[],[]⟩ v H :=
 ⟨SV.imp_of_eq h.symm,hu,by rw [ho]; trivial,trivial⟩
end
end Go.Sim
