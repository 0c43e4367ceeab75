/-
  Texts behind one another: the symbolic simulator and what it is told of the program.
-/
import Derived.Test.YtcpafideogckmaaGreatDoorPc4
import Derived.Test.YtcpafideogckmaaGreatDoorProg
namespace Go.Sim
noncomputable section
variable {α:Type}
def SA.ren (f:Nat->Nat) (a:SA):SA:=⟨f a.nm,a.off⟩
def SC.ren (f:Nat->Nat):SC->SC
 | .lit n=>.lit n
 | .sym n=>.sym n
 | .rest nm k=>.rest (f nm) k
def SFn.ren (f:Nat->Nat):SFn->SFn
 | .fn g=>.fn g
 | .yield nm=>.yield (f nm)
mutual
def SV.ren (f:Nat->Nat):SV->SV
 | .int k n=>.int k n
 | .bool b=>.bool b
 | .str s=>.str s
 | .ptr a=>.ptr (a.ren f)
 | .nilPtr=>.nilPtr
 | .slice a l c=>.slice (a.ren f) l (c.ren f)
 | .nilSlice=>.nilSlice
 | .map nm=>.map (f nm)
 | .nilMap=>.nilMap
 | .func g xs ys=>.func (g.ren f) (SV.renL f xs) (SV.renL f ys)
 | .nilFunc=>.nilFunc
 | .iface t v=>.iface t (v.ren f)
 | .nilIface=>.nilIface
 | .agg l=>.agg (SV.renL f l)
 | .tuple l=>.tuple (SV.renL f l)
 | .val v=>.val v
 | .tail a n l c=>.tail (a.ren f) n l (c.ren f)
def SV.renL (f:Nat->Nat):List SV->List SV
 | []=>[]
 | v::l=>v.ren f::SV.renL f l
end
theorem SC.den_ren (f:Nat->Nat) (β:Val) (c:SC):(c.ren f).den β=c.den (fun n=>β (f n)):=by cases c <;> rfl
theorem SFn.den_ren (f:Nat->Nat) (β:Val) (c:SFn):(c.ren f).den β=c.den (fun n=>β (f n)):=by cases c <;> rfl
mutual
theorem SV.den_ren (f:Nat->Nat) (β:Val):(v:SV)->(v.ren f).den β=v.den (fun n=>β (f n))
 | .int _ _=>rfl
 | .bool _=>rfl
 | .str _=>rfl
 | .ptr _=>rfl
 | .nilPtr=>rfl
 | .slice a l c=>by simp only [SV.ren,SV.den,SC.den_ren]; rfl
 | .nilSlice=>rfl
 | .map _=>rfl
 | .nilMap=>rfl
 | .func g xs ys=>by simp only [SV.ren,SV.den,SFn.den_ren,SV.denL_ren f β xs,SV.denL_ren f β ys]
 | .nilFunc=>rfl
 | .iface t v=>by simp only [SV.ren,SV.den,SV.den_ren f β v]
 | .nilIface=>rfl
 | .agg l=>by simp only [SV.ren,SV.den,SV.denL_ren f β l]
 | .tuple l=>by simp only [SV.ren,SV.den,SV.denL_ren f β l]
 | .val _=>rfl
 | .tail a n l c=>by simp only [SV.ren,SV.den,SC.den_ren]; rfl
theorem SV.denL_ren (f:Nat->Nat) (β:Val):(l:List SV)->SV.denL β (SV.renL f l)=SV.denL (fun n=>β (f n)) l
 | []=>rfl
 | v::l=>by simp only [SV.renL,SV.denL,SV.den_ren f β v,SV.denL_ren f β l]
end
def SC.uses (p:Nat->Bool):SC->Bool
 | .rest nm _=>p nm
 | _=>true
def SFn.uses (p:Nat->Bool):SFn->Bool
 | .yield nm=>p nm
 | _=>true
mutual
def SV.uses (p:Nat->Bool):SV->Bool
 | .ptr a=>p a.nm
 | .slice a _ c=>p a.nm && c.uses p
 | .tail a _ _ c=>p a.nm && c.uses p
 | .map nm=>p nm
 | .func g xs ys=>g.uses p && (SV.usesL p xs && SV.usesL p ys)
 | .iface _ v=>v.uses p
 | .agg l=>SV.usesL p l
 | .tuple l=>SV.usesL p l
 | _=>true
def SV.usesL (p:Nat->Bool):List SV->Bool
 | []=>true
 | v::l=>v.uses p && SV.usesL p l
end
theorem SC.den_uses {p:Nat->Bool} {β β':Val} (hp:∀ n,p n=true->β n=β' n) {c:SC} (h:c.uses p=true):c.den β=c.den β':=by
 cases c with
 | rest nm k=>simp only [SC.den,hp nm h]
 | _=>rfl
theorem SFn.den_uses {p:Nat->Bool} {β β':Val} (hp:∀ n,p n=true->β n=β' n) {c:SFn} (h:c.uses p=true):c.den β=c.den β':=by
 cases c with
 | yield nm=>simp only [SFn.den,hp nm h]
 | _=>rfl
mutual
theorem SV.den_uses {p:Nat->Bool} {β β':Val} (hp:∀ n,p n=true->β n=β' n):(v:SV)->v.uses p=true->v.den β=v.den β'
 | .int _ _,_=>rfl
 | .bool _,_=>rfl
 | .str _,_=>rfl
 | .ptr a,h=>by simp only [SV.den,SA.den,hp a.nm h]
 | .nilPtr,_=>rfl
 | .slice a l c,h=>by
   simp only [SV.uses,Bool.and_eq_true] at h
   simp only [SV.den,SA.den,hp a.nm h.1,SC.den_uses hp h.2]
 | .nilSlice,_=>rfl
 | .map nm,h=>by simp only [SV.den,hp nm h]
 | .nilMap,_=>rfl
 | .func g xs ys,h=>by
   simp only [SV.uses,Bool.and_eq_true] at h
   simp only [SV.den,SFn.den_uses hp h.1,SV.denL_uses hp xs h.2.1,SV.denL_uses hp ys h.2.2]
 | .nilFunc,_=>rfl
 | .iface t v,h=>by simp only [SV.den,SV.den_uses hp v h]
 | .nilIface,_=>rfl
 | .agg l,h=>by simp only [SV.den,SV.denL_uses hp l h]
 | .tuple l,h=>by simp only [SV.den,SV.denL_uses hp l h]
 | .val _,_=>rfl
 | .tail a n l c,h=>by
   simp only [SV.uses,Bool.and_eq_true] at h
   simp only [SV.den,SA.den,hp a.nm h.1,SC.den_uses hp h.2]
theorem SV.denL_uses {p:Nat->Bool} {β β':Val} (hp:∀ n,p n=true->β n=β' n):(l:List SV)->SV.usesL p l=true->SV.denL β l=SV.denL β' l
 | [],_=>rfl
 | v::l,h=>by
   simp only [SV.usesL,Bool.and_eq_true] at h
   simp only [SV.denL,SV.den_uses hp v h.1,SV.denL_uses hp l h.2]
end
def Cells.ren (f:Nat->Nat):Cells->Cells
 | .lst l=>.lst (SV.renL f l)
 | .fn g n=>.fn (fun i=>(g i).ren f) n
def Cells.Uses (p:Nat->Bool):Cells->Prop
 | .lst l=>SV.usesL p l=true
 | .fn g _=>∀ i,(g i).uses p=true
theorem CellsRel.ren {f:Nat->Nat} {β β':Val} {p:Nat->Bool} {c:Cells} (hu:c.Uses p) (hp:∀ n,p n=true->β (f n)=β' n) {vs:List Value}:CellsRel β (c.ren f) vs↔CellsRel β' c vs:=by
 cases c with
 | lst l =>
   show SV.denL β (SV.renL f l)=some vs↔SV.denL β' l=some vs
   rw [SV.denL_ren,SV.denL_uses hp l hu]
 | fn g n =>
   show (vs.length=n/\∀ i x,vs[i]? = some x->((g i).ren f).den β=some x)↔(vs.length=n/\∀ i x,vs[i]? = some x->(g i).den β'=some x)
   have:∀ i,((g i).ren f).den β=(g i).den β':=fun i=>by rw [SV.den_ren,SV.den_uses hp _ (hu i)]
   simp only [this]
def SO.ren (f:Nat->Nat):SO->SO
 | .own c w e=>.own (c.ren f) w e
 | .row c=>.row (c.ren f)
 | e=>e
structure Ifc where
 names:List Nat
 ents:List SO
 args:List SV
def Ifc.big (I:Ifc) (j:Nat):Nat:=(nth I.names j).getD 0
def Ifc.known (I:Ifc) (j:Nat):Bool:=Nat.blt j (lenN I.names)
def SO.placed:SO->Bool
 | .own _ _ _=>true
 | .row _=>true
 | _=>false
def SV.Imp (v u:SV):Prop:=∀ β x,v.den β=some x->u.den β=some x
def SV.ImpL (l m:List SV):Prop:=∀ β vs,SV.denL β l=some vs->SV.denL β m=some vs
theorem SV.ImpL.refl (l:List SV):SV.ImpL l l:=fun _ _ h=>h
def Cells.Imp (c d:Cells):Prop:=∀ β vs,CellsRel β c vs->CellsRel β d vs
def Cells.Front (c d:Cells):Prop:=∀ β vs,CellsRel β c vs->∃ k,CellsRel β d (vs.take k)
theorem SV.Imp.refl (v:SV):v.Imp v:=fun _ _ h=>h
theorem Cells.Imp.refl (c:Cells):c.Imp c:=fun _ _ h=>h
theorem Cells.Imp.trans {a b c:Cells} (h:a.Imp b) (k:b.Imp c):a.Imp c:=fun β vs x=>k β vs (h β vs x)
theorem Cells.Imp.front {c d:Cells} (h:c.Imp d):c.Front d:=fun β vs x=>⟨vs.length,by rw [List.take_length]; exact h β vs x⟩
def qrb (f:Nat->Nat) (E e:SO):Prop :=
 match E with
 | .own c w el=>∃ c0,e=.own c0 w el/\c0.Imp (c.ren f)
 | .row c=>∃ c0,(e=.row c0\/∃ w el,e=.own c0 w el)/\c0.Front (c.ren f)
 | .gone=>e.placed=true
 | _=>False
def SO.CUses (p:Nat->Bool):SO->Prop
 | .own c _ _=>c.Uses p
 | .row c=>c.Uses p
 | .gone=>True
 | _=>False
structure Ifc.Fits (I:Ifc) (H:List SO):Prop where
 len:I.ents.length=I.names.length
 nodup:∀ (i j nm:Nat),I.names[i]? = some nm->I.names[j]? = some nm->i=j
 uargs:SV.usesL I.known I.args=true
 ent:∀ (j:Nat) (E:SO),I.ents[j]? = some E->∃ e,H[I.big j]? = some e/\qrb I.big E e
 uent:∀ (j:Nat) (E:SO),I.ents[j]? = some E->E.CUses I.known
def Ifc.val (I:Ifc) (β:Val):Val:=fun j=>if I.known j then β (I.big j) else none
def Ifc.owns (I:Ifc) (β:Val) (b:Nat):Prop:=∃ (j:Nat) (c:Cells) (w:Bool) (el:TypeId) (l:Loc),I.ents[j]? = some (.own c w el)/\β (I.big j)=some l/\l.blk=b
theorem Ifc.known_iff (I:Ifc) (j:Nat):I.known j=true↔j<I.names.length:=by
 unfold Ifc.known
 rw [qva]
 constructor
 . intro h; have:=Nat.le_of_ble_eq_true h; omega
 . intro h; exact Nat.ble_eq_true_of_le h
theorem Ifc.val_known {I:Ifc} {β:Val}:∀ n,I.known n=true->β (I.big n)=I.val β n:=fun n h=>by unfold Ifc.val; rw [if_pos h]
theorem Ifc.big_get {I:Ifc} {j:Nat} (h:j<I.names.length):I.names[j]? = some (I.big j):=by
 unfold Ifc.big
 rw [qga,List.getElem?_eq_getElem h]; rfl
theorem World.cell_of_block {w w':World} {a:Addr} (h:w'.heap[a.block]? = w.heap[a.block]?):w'.cell? a=w.cell? a:=by
 unfold World.cell?
 rw [h]
theorem Ifc.heap {P:Program} {O:Nat->Prop} {w0 w:World} {β:Val} {H:List SO} {I:Ifc} (h:HeapRel0 P O w0 β H w) (hI:I.Fits H):HeapRel P (I.owns β) w (I.val β) I.ents w:=by
 have hj:∀ (j:Nat) (E:SO),I.ents[j]? = some E->j<I.names.length:=fun j E he=>by
  rw [← hI.len]; exact (List.getElem?_eq_some_iff.1 he).1
 have hval:∀ (j:Nat) (E:SO),I.ents[j]? = some E->I.val β j=β (I.big j):=fun j E he=>by
  exact (Ifc.val_known j ((I.known_iff j).2 (hj j E he))).symm
 have hne:∀ (i j:Nat) (E E':SO),I.ents[i]? = some E->I.ents[j]? = some E'->i≠j->I.big i≠I.big j:=fun i j E E' h1 h2 hij heq =>
  hij (hI.nodup i j (I.big i) (Ifc.big_get (hj i E h1)) (by rw [heq]; exact Ifc.big_get (hj j E' h2)))
 refine ⟨⟨fun n E hn => ?_,fun n m E E' l l' hn hm ho ho' hnm hl hl' => ?_,fun n E l hn ho hl => ?_,⟨rfl,rfl,rfl,Nat.le_refl _,fun _ _ _=>rfl⟩⟩,fun n hn => ?_⟩
 . obtain ⟨e,he,ht⟩:=hI.ent n E hn
   have hu:=hI.uent n E hn
   have hv:=hval n E hn
   have h0:=h.entries _ e he
   cases E with
   | own c wh el =>
     obtain ⟨c0,rfl,himp⟩:=ht
     obtain ⟨l,vs,rest,lo,hi,hl,h0',hc,hh,hfz,hw,hcap⟩:=h0
     exact ⟨l,vs,rest,lo,hi,hv.trans hl,h0',(CellsRel.ren hu Ifc.val_known).1 (himp _ _ hc),hh,hfz,hw,hcap⟩
   | row c =>
     have htake:∀ (vs:List Value) (k i:Nat) (x:Value),(vs.take k)[i]? = some x->vs[i]? = some x:=by
      intro vs k i x h
      rw [List.getElem?_take] at h
      split at h
      . exact h
      . cases h
     obtain ⟨c0,ht,himp⟩:=ht
     rcases ht with rfl | ⟨wh,el,rfl⟩
     . obtain ⟨l,vs,hl,hc,hx⟩:=h0
       obtain ⟨kk,hc⟩:=himp _ _ hc
       refine ⟨l,vs.take kk,hv.trans hl,(CellsRel.ren hu Ifc.val_known).1 hc,fun i x hi => ?_⟩
       obtain ⟨h1,h2,h3⟩:=hx i x (htake _ _ _ _ hi)
       refine ⟨Nat.lt_of_lt_of_le h1 h.keep.size,?_,?_⟩
       . rintro ⟨j,c',w',el',l',hj',hl',hb⟩
         obtain ⟨e',he',ht'⟩:=hI.ent j _ hj'
         obtain ⟨c1,rfl,_⟩:=ht'
         rcases h.fresh _ _ l' he' rfl hl' with h4 | h4
         . omega
         . exact h2 (hb▸h4)
       . rw [World.cell_of_block (h.keep.block _ h1 h2)]; exact h3
     . obtain ⟨l,vs,rest,lo,hi,hl,h0',hc,hh,hfz,hw,hcap⟩:=h0
       obtain ⟨kk,hc⟩:=himp _ _ hc
       refine ⟨l,vs.take kk,hv.trans hl,(CellsRel.ren hu Ifc.val_known).1 hc,fun i x hi0=>⟨(Array.getElem?_eq_some_iff.1 hh).1,?_,?_⟩⟩
       . rintro ⟨j,c',w',el',l',hj',hl',hb⟩
         obtain ⟨e',he',ht'⟩:=hI.ent j _ hj'
         obtain ⟨c1,rfl,_⟩:=ht'
         by_cases hnj:n=j
         . subst hnj; rw [hn] at hj'; cases hj'
         . exact h.sep _ _ _ _ l l' he he' rfl rfl (hne n j _ _ hn hj' hnj) hl hl' hb.symm
       . unfold World.cell?
         rw [hh,h0',Nat.zero_add]
         have hi':=htake _ _ _ _ hi0
         have hlt:=(List.getElem?_eq_some_iff.1 hi').1
         simp only [List.getElem?_toArray,List.getElem?_append_left hlt,hi']
         rfl
   | loop=>exact hu.elim
   | deferred=>exact hu.elim
   | gone=>trivial
   | obj=>exact hu.elim
 . obtain ⟨e,he,ht⟩:=hI.ent n E hn
   obtain ⟨e',he',ht'⟩:=hI.ent m E' hm
   rw [hval n E hn] at hl
   rw [hval m E' hm] at hl'
   cases E with
   | own c wh el =>
     cases E' with
     | own c' wh' el' =>
       obtain ⟨c1,rfl,_⟩:=ht
       obtain ⟨c2,rfl,_⟩:=ht'
       exact h.sep _ _ _ _ l l' he he' rfl rfl (hne n m _ _ hn hm hnm) hl hl'
     | row=>cases ho'
     | loop=>exact (hI.uent m _ hm).elim
     | deferred=>exact (hI.uent m _ hm).elim
     | gone=>cases ho'
     | obj=>exact (hI.uent m _ hm).elim
   | row=>cases ho
   | loop=>exact (hI.uent n _ hn).elim
   | deferred=>exact (hI.uent n _ hn).elim
   | gone=>cases ho
   | obj=>exact (hI.uent n _ hn).elim
 . rw [hval n E hn] at hl
   cases E with
   | own c wh el=>exact .inr ⟨n,c,wh,el,l,hn,hl,rfl⟩
   | row=>cases ho
   | loop=>exact (hI.uent n _ hn).elim
   | deferred=>exact (hI.uent n _ hn).elim
   | gone=>cases ho
   | obj=>exact (hI.uent n _ hn).elim
 . unfold Ifc.val
   rw [if_neg]
   rw [I.known_iff,← hI.len]; omega
def idxN (k:Nat) (l:List Nat):Nat:=List.rec (motive:=fun _=>Nat) 0 (fun a _ ih=>boolC (Nat.beq a k) 0 (Nat.succ ih)) l
def Ifc.out (I:Ifc) (base:Nat) (keep:List Nat) (j:Nat):Nat:=boolC (I.known j) (I.big j) (base+idxN j keep)
def Ifc.seen (I:Ifc) (keep:List Nat) (j:Nat):Bool:=boolC (I.known j) true (memN j keep)
def q5d (p:Nat->Bool) (g:Nat->Nat) (E:Option SO) (e:SO):Prop:=∃ c w el c',E=some (.own c w el)/\c.Uses p/\(c.ren g).Imp c'/\e=.own c' w el
structure Ifc.Out (I:Ifc) (base:Nat) (turn keep:List Nat) (r:SumRes) (v:SV) (H:List SO):Prop where
 val:(v.ren (I.out base keep)).Imp r.v
 uv:v.uses (I.seen keep)=true
 setsLen:r.sets.length=turn.length
 sets:∀ (i j:Nat),turn[i]? = some j->∃ e,r.sets[i]? = some (I.big j,e)/\q5d (I.seen keep) (I.out base keep) H[j]? e
 newsLen:r.news.length=keep.length
 news:∀ (i j:Nat),keep[i]? = some j->∃ e,r.news[i]? = some e/\q5d (I.seen keep) (I.out base keep) H[j]? e
theorem q1m {k:Nat} {l:List Nat} (h:k∈l):l[idxN k l]? = some k:=by
 induction l with
 | nil=>cases h
 | cons a l ih =>
   show (a::l)[boolC (Nat.beq a k) 0 (Nat.succ (idxN k l))]? = _
   by_cases ha:a=k
   . subst ha; rw [show Nat.beq a a=true from Nat.beq_refl a]; rfl
   . rw [show Nat.beq a k=false from Bool.eq_false_iff.2 fun h=>ha (Nat.eq_of_beq_eq_true h)]
     simpa using ih ((List.mem_cons.1 h).resolve_left fun e=>ha e.symm)
theorem memN_iff {n:Nat} {l:List Nat}:memN n l=true↔n∈l:=by
 constructor
 . intro h
   induction l with
   | nil=>cases h
   | cons a l ih =>
     have h':boolC (Nat.beq a n) true (memN n l)=true:=h
     by_cases ha:a=n
     . subst ha; exact List.mem_cons_self
     . rw [show Nat.beq a n=false from Bool.eq_false_iff.2 fun h=>ha (Nat.eq_of_beq_eq_true h)] at h'
       exact List.mem_cons_of_mem _ (ih h')
 . exact qzm
theorem qfw {c:Cfg} {O:Nat->Prop} {w0 w:World} {β:Val} {H:List SO} {base:Nat} {f:FuncId} {vs:List Value} (hH:HeapRel0 c.P O w0 β H w)
  (I:Ifc) (hgl:∀ g j,c.glob g=some j->I.known j=true/\∃ l,β (I.big j)=some l/\l.blk=g/\l.off=0) (ha:SV.denL β (SV.renL I.big I.args)=some vs) (hI:I.Fits H) {r:SumRes} (turn keep:List Nat) (ht1:∀ (j:Nat) c w el,I.ents[j]? = some (.own c w el)->j∈turn) (ht2:∀ j∈turn,∃ c w el,I.ents[j]? = some (.own c w el)) (hk:∀ j∈keep,I.names.length<=j) (hkn:keep.Nodup) (htn:turn.Nodup:=by simp)
  (hbody:∃ fn,c.P.funcs[f]? = some fn/\fn.body.isSome=true)
  (hrun:HeapRel c.P (I.owns β) w (I.val β) I.ents w->GlobRel c.glob (I.val β)->SV.denL (I.val β) I.args=some vs->Calls c.P f vs.toArray w (Came c.P (I.owns β) w (I.val β) (I.Out base turn keep r))):q4a c.P H β w base f vs r:=by
 intro hfree
 have hH':=Ifc.heap hH hI
 have ha':SV.denL (I.val β) I.args=some vs:=by
  rw [SV.denL_ren,SV.denL_uses Ifc.val_known _ hI.uargs] at ha; exact ha
 have hcalls:=hrun hH' (fun g j hg=>let ⟨hk,l,h1,h2⟩:=hgl g j hg; ⟨l,by rw [← Ifc.val_known j hk]; exact h1,h2⟩) ha'
 have hown:∀ j∈turn,∃ cb wb el l vs rest lo hi,H[I.big j]? = some (.own cb wb el)/\β (I.big j)=some l/\I.val β j=some l/\j<I.names.length/\w.heap[l.blk]? = some (.cells (vs++rest:List Value).toArray el (lo,hi)):=by
  intro j hj
  obtain ⟨cc,ww,el,he⟩:=ht2 j hj
  obtain ⟨e,he',ht⟩:=hI.ent j _ he
  obtain ⟨c1,rfl,_⟩:=ht
  obtain ⟨l,vs,rest,lo,hi,hl,_,_,hh,_⟩:=hH.entries _ _ he'
  have hjl:j<I.names.length:=by rw [← hI.len]; exact (List.getElem?_eq_some_iff.1 he).1
  exact ⟨_,_,_,l,vs,rest,lo,hi,he',hl,by rw [← Ifc.val_known j ((I.known_iff j).2 hjl)]; exact hl,hjl,hh⟩
 have hsets:∀ (v:SV) (H'':List SO),I.Out base turn keep r v H''->∀ m e,(m,e)∈r.sets->∃ j∈turn,m=I.big j/\q5d (I.seen keep) (I.out base keep) H''[j]? e/\∃ i:Nat,turn[i]? = some j/\r.sets[i]? = some (m,e):=by
  intro v H'' hout m e hm
  obtain ⟨i,hi⟩:=List.mem_iff_getElem?.1 hm
  have hil:=(List.getElem?_eq_some_iff.1 hi).1
  rw [hout.setsLen] at hil
  obtain ⟨e',h1,h2⟩:=hout.sets i _ (List.getElem?_eq_getElem hil)
  rw [hi] at h1
  cases h1
  exact ⟨_,List.getElem_mem hil,rfl,h2,i,List.getElem?_eq_getElem hil,hi⟩
 refine ⟨?_,.inl ⟨hbody,?_⟩⟩
 . intro m e hm
   obtain ⟨e',w',fr,hcame,_⟩:=hcalls []
   obtain ⟨v,H'',x,β'',_,hout,_⟩:=hcame
   obtain ⟨j,hj,rfl,_⟩:=hsets v H'' hout m e hm
   obtain ⟨cb,wb,el,l,vs,rest,lo,hi,h1,_⟩:=hown j hj
   exact ⟨_,h1,rfl⟩
 . intro cs
   obtain ⟨e',w',fr,hcame,hst⟩:=hcalls cs
   refine ⟨e',w',fr,?_,hst⟩
   obtain ⟨v,H'',x,β'',rfl,hout,hle,hv,hH2⟩:=hcame
   let βb:Val:=fun n=>if base<=n/\n<base+keep.length then (keep[n - base]?).bind β'' else β n
   have hlenn:r.news.length=keep.length:=hout.newsLen
   have hfree':∀ i,i<keep.length->β (base+i)=none:=fun i hi=>hfree i (by rw [hlenn]; exact hi)
   have hβle:β.le βb:=by
    intro n l hn
    show (if _ then _ else _)=_
    rw [if_neg]
    . exact hn
    . rintro ⟨h1,h2⟩
      have:=hfree' (n - base) (by omega)
      rw [show base+(n - base)=n from by omega,hn] at this; cases this
   have hseen:∀ j,I.seen keep j=true->βb (I.out base keep j)=β'' j:=by
    intro j hj
    unfold Ifc.seen at hj
    unfold Ifc.out
    cases hkn':I.known j with
    | true =>
      rw [boolC_true]
      have hjl:=(I.known_iff j).1 hkn'
      obtain ⟨E,hE⟩:∃ E,I.ents[j]? = some E:=⟨_,List.getElem?_eq_getElem (by rw [hI.len]; exact hjl)⟩
      obtain ⟨e,he,htk⟩:=hI.ent j E hE
      have hsome:∃ l,β (I.big j)=some l:=by
       have h0:=hH.entries _ e he
       have hu:=hI.uent j E hE
       have hplaced:e.placed=true:=by
        cases E with
        | own cc ww el=>obtain ⟨c1,rfl,_⟩:=htk; rfl
        | row cc=>obtain ⟨c1,rfl | ⟨ww,el,rfl⟩,_⟩:=htk <;> rfl
        | loop=>exact hu.elim
        | deferred=>exact hu.elim
        | gone=>exact htk
        | obj=>exact hu.elim
       cases e with
       | own cc ww el=>obtain ⟨l,_,_,_,_,hl,_⟩:=h0; exact ⟨l,hl⟩
       | row cc=>obtain ⟨l,_,hl,_⟩:=h0; exact ⟨l,hl⟩
       | loop=>cases hplaced
       | deferred=>cases hplaced
       | gone=>cases hplaced
       | obj=>cases hplaced
      obtain ⟨l,hl⟩:=hsome
      rw [hβle _ _ hl]
      have:I.val β j=some l:=by rw [← Ifc.val_known j hkn']; exact hl
      rw [hle _ _ this]
    | false =>
      rw [hkn',boolC_false,memN_iff] at hj
      rw [boolC_false]
      have h1:=q1m hj
      have h2:=(List.getElem?_eq_some_iff.1 h1).1
      show (if _ then _ else _)=_
      rw [if_pos (by omega),show base+idxN j keep - base=idxN j keep from by omega,h1]; rfl
   have hrenOwn:∀ (j:Nat) (e:SO),q5d (I.seen keep) (I.out base keep) H''[j]? e->I.seen keep j=true->e.owned=true/\OwnRel c.P βb w' (I.out base keep j) e:=by
    intro j e hg hs
    obtain ⟨cc,ww,el,c',he,hu,himp,rfl⟩:=hg
    obtain ⟨l,vs,rest,lo,hi,hl,h0,hcl,hh,hfz,hw,hcap⟩:=hH2.entries j _ he
    exact ⟨rfl,l,vs,rest,lo,hi,(hseen j hs).trans hl,h0,himp _ _ ((CellsRel.ren hu hseen).2 hcl),hh,hfz,hw,hcap⟩
   have hseenT:∀ j∈turn,I.seen keep j=true/\I.out base keep j=I.big j:=by
    intro j hj
    obtain ⟨_,_,_,_,_,_,_,_,_,_,_,hjl,_⟩:=hown j hj
    have:=(I.known_iff j).2 hjl
    unfold Ifc.seen Ifc.out
    rw [this]; exact ⟨rfl,rfl⟩
   have hseenK:∀ j∈keep,I.seen keep j=true/\I.known j=false:=by
    intro j hj
    have hnk:I.known j=false:=by
     cases hx:I.known j with
     | false=>rfl
     | true=>have:=(I.known_iff j).1 hx; have:=hk j hj; omega
    unfold Ifc.seen
    rw [hnk]; exact ⟨qzm hj,rfl⟩
   have hnewsAt:∀ (i:Nat) (e:SO),r.news[i]? = some e->∃ j,keep[i]? = some j/\q5d (I.seen keep) (I.out base keep) H''[j]? e:=by
    intro i e hi
    have hil:=(List.getElem?_eq_some_iff.1 hi).1
    rw [hlenn] at hil
    obtain ⟨e',h1,h2⟩:=hout.news i _ (List.getElem?_eq_getElem hil)
    rw [hi] at h1; cases h1
    exact ⟨_,List.getElem?_eq_getElem hil,h2⟩
   refine ⟨x,βb,rfl,?_,⟨hβle,hH2.keep.os,hH2.keep.tape,hH2.keep.output,hH2.keep.size,?_,?_,?_,?_,?_,?_⟩⟩
   . refine hout.val _ _ ?_
     rw [SV.den_ren,SV.den_uses hseen _ hout.uv]; exact hv
   . intro n hn
     rw [hlenn] at hn
     show (if _ then _ else _)=_
     rw [if_neg (by omega)]
   . intro b hb hno
     refine hH2.keep.block b hb ?_
     rintro ⟨j,cc,ww,el,l,hj,hl,rfl⟩
     have hjt:=ht1 j cc ww el hj
     obtain ⟨i,hi⟩:=List.mem_iff_getElem?.1 hjt
     obtain ⟨e,he,_⟩:=hout.sets i j hi
     exact hno (I.big j) e l (List.mem_of_getElem? he) hl rfl
   . intro m e e' h1 h2
     obtain ⟨j,hj,hm1,hg1,i1,ht1',hs1⟩:=hsets v H'' hout m e h1
     obtain ⟨k,hk',hm2,hg2,i2,ht2',hs2⟩:=hsets v H'' hout m e' h2
     obtain ⟨_,_,_,_,_,_,_,_,_,_,_,hjl,_⟩:=hown j hj
     obtain ⟨_,_,_,_,_,_,_,_,_,_,_,hkl,_⟩:=hown k hk'
     have hjk:k=j:=hI.nodup k j (I.big k) (Ifc.big_get hkl) (by rw [← hm2,hm1]; exact Ifc.big_get hjl)
     subst hjk
     have:i1=i2:=(List.getElem?_inj (List.getElem?_eq_some_iff.1 ht1').1 htn).1 (ht1'.trans ht2'.symm)
     subst this
     rw [hs1] at hs2
     exact (Prod.mk.inj (Option.some.inj hs2)).2
   . intro m e hm
     obtain ⟨j,hj,rfl,hg,_⟩:=hsets v H'' hout m e hm
     obtain ⟨hs,hb⟩:=hseenT j hj
     rw [← hb]
     exact (hrenOwn j e hg hs).2
   . intro i e hi
     obtain ⟨j,hj,hg⟩:=hnewsAt i e hi
     have hjm:=List.mem_of_getElem? hj
     obtain ⟨hs,hnk⟩:=hseenK j hjm
     have hout':I.out base keep j=base+i:=by
      unfold Ifc.out
      rw [hnk,boolC_false]
      have h1:=q1m hjm
      have:idxN j keep=i:=(List.getElem?_inj (List.getElem?_eq_some_iff.1 h1).1 hkn).1 (h1.trans hj.symm)
      rw [this]
     obtain ⟨ho,hor⟩:=hrenOwn j e hg hs
     refine ⟨ho,hout'▸hor,?_⟩
     obtain ⟨cc,ww,el,c',he,_⟩:=hg
     obtain ⟨l,vs2,rest,lo,hi2,hl,_⟩:=hH2.entries j _ he
     refine ⟨l,by rw [← hout',hseen j hs]; exact hl,.inl ?_⟩
     rcases hH2.fresh j _ l he rfl hl with h1 | ⟨k,ck,wk,ek,lk,hk1,hk2,hk3⟩
     . exact h1
     . exfalso
       have hkt:=ht1 k ck wk ek hk1
       obtain ⟨i3,hi3⟩:=List.mem_iff_getElem?.1 hkt
       obtain ⟨_,_,c2,w2,e2,_,he2,_⟩:=hout.sets i3 k hi3
       obtain ⟨_,_,_,l2,_,_,_,_,_,hb2,hv2,hkl,_⟩:=hown k hkt
       rw [hb2] at hk2; cases hk2
       refine hH2.sep k j _ _ lk l he2 he rfl rfl ?_ (hle _ _ hv2) hl hk3
       have:=hk j hjm; omega
   . intro i j l l' hij hi hj hl hl'
     rw [hlenn] at hi hj
     have hone:∀ i,i<keep.length->∀ l,βb (base+i)=some l->∃ k,keep[i]? = some k/\β'' k=some l:=by
      intro i hi l hl
      have hl:(if base<=base+i/\base+i<base+keep.length then (keep[base+i - base]?).bind β'' else β (base+i))=some l:=hl
      rw [if_pos (by omega),show base+i - base=i from by omega,List.getElem?_eq_getElem hi] at hl
      exact ⟨_,List.getElem?_eq_getElem hi,hl⟩
     obtain ⟨k1,hk1,hb1⟩:=hone i hi l hl
     obtain ⟨k2,hk2,hb2⟩:=hone j hj l' hl'
     obtain ⟨_,_,c1,w1,e1,_,he1,_⟩:=hout.news i k1 hk1
     obtain ⟨_,_,c2,w2,e2,_,he2,_⟩:=hout.news j k2 hk2
     refine hH2.sep k1 k2 _ _ l l' he1 he2 rfl rfl (fun h => ?_) hb1 hb2
     subst h
     exact hij ((List.getElem?_inj (List.getElem?_eq_some_iff.1 hk1).1 hkn).1 (hk1.trans hk2.symm))
theorem qnn {P:Program} {f:FuncId} {args:List SV} {g:SF} (h:q7g P f args=some g):∃ fn,P.funcs[f]? = some fn/\fn.body.isSome=true:=by
 unfold q7g at h
 rw [qga,Array.getElem?_toList] at h
 cases hf:P.funcs[f]? with
 | none=>rw [hf] at h; cases h
 | some fn =>
   refine ⟨fn,rfl,?_⟩
   rw [hf] at h
   cases hb:fn.body with
   | none=>simp only [optC_some,hb,optC_none] at h; cases h
   | some b=>rfl
theorem jsc {c:Cfg} (hc:CfgOK c) {n:Nat} {O:Nat->Prop} {w0 w:World} {β:Val} {H:List SO} {base:Nat} {f:FuncId} {vs:List Value} (hH:HeapRel0 c.P O w0 β H w)
  (I:Ifc) (hgl:∀ g j,c.glob g=some j->I.known j=true/\∃ l,β (I.big j)=some l/\l.blk=g/\l.off=0) (ha:SV.denL β (SV.renL I.big I.args)=some vs) (hI:I.Fits H) {r:SumRes} (turn keep:List Nat) (ht1:∀ (j:Nat) c w el,I.ents[j]? = some (.own c w el)->j∈turn) (ht2:∀ j∈turn,∃ c w el,I.ents[j]? = some (.own c w el)) (hk:∀ j∈keep,I.names.length<=j) (hkn:keep.Nodup) (htn:turn.Nodup:=by simp)
  (hob:(qca c n f I.args I.ents).Ob (I.Out base turn keep r) fun _=>False):q4a c.P H β w base f vs r:=by
 refine qfw hH I hgl ha hI turn keep ht1 ht2 hk hkn htn ?_ fun hH' hG ha'=>qqu hc hH' hG ha' hob
 unfold qca at hob
 cases hg:q7g c.P f I.args with
 | none=>rw [hg] at hob; exact hob.elim
 | some g=>exact qnn hg
theorem SV.imp_of_eq {c d:SV} (h:c=d):c.Imp d:=h▸.refl c
end
noncomputable section
variable {α:Type}
def EntsOK (f:Nat->Nat) (p:Nat->Bool) (H:List SO):List Nat->List SO->Prop
 | n::ns,E::Es=>((∃ e,H[n]? = some e/\qrb f E e)/\E.CUses p)/\EntsOK f p H ns Es
 | [],[]=>True
 | _,_=>False
theorem EntsOK.length {f:Nat->Nat} {p:Nat->Bool} {H:List SO}:∀ {ns:List Nat} {Es:List SO},EntsOK f p H ns Es->Es.length=ns.length
 | [],[],_=>rfl
 | _::_,_::_,h=>by simp only [List.length_cons]; rw [EntsOK.length h.2]
 | [],_::_,h=>h.elim
 | _::_,[],h=>h.elim
theorem EntsOK.get {f:Nat->Nat} {p:Nat->Bool} {H:List SO}:∀ {ns:List Nat} {Es:List SO},EntsOK f p H ns Es->∀ (j:Nat) (E:SO),Es[j]? = some E->(∃ e,H[(nth ns j).getD 0]? = some e/\qrb f E e)/\E.CUses p
 | [],[],_,j,E,h=>by simp at h
 | n::ns,E'::Es,h,0,E,hE=>by simp at hE; subst hE; exact h.1
 | n::ns,E'::Es,h,j+1,E,hE=>by
   have:=EntsOK.get h.2 j E (by simpa using hE)
   rw [qga] at this ⊢
   simpa using this
 | [],_::_,h,_,_,_=>h.elim
 | _::_,[],h,_,_,_=>h.elim
theorem Ifc.fits {I:Ifc} {H:List SO} (hn:I.names.Nodup) (hu:SV.usesL I.known I.args=true) (he:EntsOK I.big I.known H I.names I.ents):I.Fits H :=
 ⟨he.length,fun _ _ _ hi hj=>(List.getElem?_inj (List.getElem?_eq_some_iff.1 hi).1 hn).1 (hi.trans hj.symm),hu,fun j E hE=>(he.get j E hE).1,fun j E hE=>(he.get j E hE).2⟩
def SO.isOwn:SO->Bool
 | .own _ _ _=>true
 | _=>false
def q6b:List SO->Nat->List Nat
 | [],_=>[]
 | E::Es,k=>if E.isOwn then k::q6b Es (k+1) else q6b Es (k+1)
theorem qdh:∀ (Es:List SO) (k j:Nat),j∈q6b Es k↔∃ i c w el,j=k+i/\Es[i]? = some (.own c w el)
 | [],k,j=>by simp [q6b]
 | E::Es,k,j=>by
   have ih:=qdh Es (k+1) j
   have hstep:(∃ i c w el,j=k+1+i/\Es[i]? = some (SO.own c w el))->∃ i c w el,j=k+i/\(E::Es)[i]? = some (SO.own c w el):=fun ⟨i,c,w,el,h,h'⟩=>⟨i+1,c,w,el,by omega,by simpa using h'⟩
   unfold q6b
   split
   . rename_i ho
     rw [List.mem_cons,ih]
     constructor
     . rintro (rfl | h)
       . cases E <;> first | (cases ho; done) | exact ⟨0,_,_,_,rfl,rfl⟩
       . exact hstep h
     . rintro ⟨i,c,w,el,h,h'⟩
       cases i with
       | zero=>exact .inl h
       | succ i=>exact .inr ⟨i,c,w,el,by omega,by simpa using h'⟩
   . rename_i ho
     rw [ih]
     constructor
     . exact hstep
     . rintro ⟨i,c,w,el,h,h'⟩
       cases i with
       | zero=>simp at h'; subst h'; exact absurd rfl ho
       | succ i=>exact ⟨i,c,w,el,by omega,by simpa using h'⟩
theorem qrj:∀ (Es:List SO) (k:Nat),(q6b Es k).Nodup
 | [],k=>by simp [q6b]
 | E::Es,k=>by
   unfold q6b
   split
   . refine List.nodup_cons.2 ⟨fun h => ?_,qrj Es (k+1)⟩
     obtain ⟨i,_,_,_,h,_⟩:=(qdh Es (k+1) k).1 h
     omega
   . exact qrj Es (k+1)
def SetsOK (big:Nat->Nat) (p:Nat->Bool) (g:Nat->Nat) (H:List SO):List Nat->List (Nat × SO)->Prop
 | j::js,x::rs=>(x.1=big j/\q5d p g H[j]? x.2)/\SetsOK big p g H js rs
 | [],[]=>True
 | _,_=>False
def NewsOK (p:Nat->Bool) (g:Nat->Nat) (H:List SO):List Nat->List SO->Prop
 | j::js,e::rs=>q5d p g H[j]? e/\NewsOK p g H js rs
 | [],[]=>True
 | _,_=>False
theorem SetsOK.length {big p g H}:∀ {js:List Nat} {rs:List (Nat × SO)},SetsOK big p g H js rs->rs.length=js.length
 | [],[],_=>rfl
 | _::_,_::_,h=>by simp only [List.length_cons]; rw [SetsOK.length h.2]
 | [],_::_,h=>h.elim
 | _::_,[],h=>h.elim
theorem SetsOK.get {big p g H}:∀ {js:List Nat} {rs:List (Nat × SO)},SetsOK big p g H js rs->∀ (i j:Nat),js[i]? = some j->∃ e,rs[i]? = some (big j,e)/\q5d p g H[j]? e
 | [],[],_,i,j,h=>by simp at h
 | j'::js,x::rs,h,0,j,hE=>by simp at hE; subst hE; exact ⟨x.2,by simp [← h.1.1],h.1.2⟩
 | j'::js,x::rs,h,i+1,j,hE=>by
   obtain ⟨e,a,b⟩:=SetsOK.get h.2 i j (by simpa using hE)
   exact ⟨e,by simpa using a,b⟩
 | [],_::_,h,_,_,_=>h.elim
 | _::_,[],h,_,_,_=>h.elim
theorem NewsOK.length {p g H}:∀ {js:List Nat} {rs:List SO},NewsOK p g H js rs->rs.length=js.length
 | [],[],_=>rfl
 | _::_,_::_,h=>by simp only [List.length_cons]; rw [NewsOK.length h.2]
 | [],_::_,h=>h.elim
 | _::_,[],h=>h.elim
theorem NewsOK.get {p g H}:∀ {js:List Nat} {rs:List SO},NewsOK p g H js rs->∀ (i j:Nat),js[i]? = some j->∃ e,rs[i]? = some e/\q5d p g H[j]? e
 | [],[],_,i,j,h=>by simp at h
 | j'::js,x::rs,h,0,j,hE=>by simp at hE; subst hE; exact ⟨x,by simp,h.1⟩
 | j'::js,x::rs,h,i+1,j,hE=>by
   obtain ⟨e,a,b⟩:=NewsOK.get h.2 i j (by simpa using hE)
   exact ⟨e,by simpa using a,b⟩
 | [],_::_,h,_,_,_=>h.elim
 | _::_,[],h,_,_,_=>h.elim
structure Ifc.Ends (I:Ifc) (base:Nat) (keep:List Nat) (r:SumRes) (v:SV) (H:List SO):Prop where
 val:(v.ren (I.out base keep)).Imp r.v
 uv:v.uses (I.seen keep)=true
 sets:SetsOK I.big (I.seen keep) (I.out base keep) H (q6b I.ents 0) r.sets
 news:NewsOK (I.seen keep) (I.out base keep) H keep r.news
theorem Tree.Ob.mono {t:Tree} {D D':SV->List SO->Prop} {S:SS->Prop} (h:t.Ob D S) (hd:∀ v H,D v H->D' v H):t.Ob D' S:=by
 induction t with
 | done v H=>exact hd v H h
 | stop s=>exact h
 | need p t ih=>exact ⟨h.1,ih h.2⟩
 | fork b t f iht ihf=>exact ⟨fun hb=>iht (h.1 hb),fun hb=>ihf (h.2 hb)⟩
 | stuck n=>exact h
 | any k ih=>exact fun z=>ih z (h z)
theorem qsg {c:Cfg} (hc:CfgOK c) (n:Nat) {O:Nat->Prop} {w0 w:World} {β:Val} {H:List SO} {base:Nat} {f:FuncId} {vs:List Value} (hH:HeapRel0 c.P O w0 β H w)
  (I:Ifc) (hgl:∀ g j,c.glob g=some j->I.known j=true/\∃ l,β (I.big j)=some l/\l.blk=g/\l.off=0) (ha:SV.denL β (SV.renL I.big I.args)=some vs) (hI:I.Fits H) {r:SumRes} (keep:List Nat) (hk:∀ j∈keep,I.names.length<=j) (hkn:keep.Nodup)
  (hob:(qca c n f I.args I.ents).Ob (I.Ends base keep r) fun _=>False):q4a c.P H β w base f vs r:=by
 refine jsc hc (n:=n) hH I hgl ha hI (q6b I.ents 0) keep (fun j c w el h=>(qdh _ _ _).2 ⟨j,c,w,el,by omega,h⟩) (fun j hj => ?_) hk hkn (qrj _ _) ?_
 . obtain ⟨i,c,w,el,h,h'⟩:=(qdh _ _ _).1 hj
   exact ⟨c,w,el,by rw [h,Nat.zero_add]; exact h'⟩
 . refine hob.mono fun v H' h=>⟨h.val,h.uv,h.sets.length,h.sets.get,h.news.length,h.news.get⟩
theorem que {c:Cfg} (hc:CfgOK c) (hgl:c.glob=fun _=>none) (n:Nat) {O:Nat->Prop} {w0 w:World} {β:Val} {H:List SO} {base:Nat} {f:FuncId} {vs:List Value} (hH:HeapRel0 c.P O w0 β H w)
  (I:Ifc) (ha:SV.denL β (SV.renL I.big I.args)=some vs) (hI:I.Fits H) {r:SumRes} (keep:List Nat) (hk:∀ j∈keep,I.names.length<=j) (hkn:keep.Nodup)
  (hob:(qca c n f I.args I.ents).Ob (I.Ends base keep r) fun _=>False):q4a c.P H β w base f vs r :=
 qsg hc n hH I (fun g j h=>by rw [hgl] at h; cases h) ha hI keep hk hkn hob
theorem qbc {p:Nat->Bool} {g:Nat->Nat} {E:Option SO} {c:Cells} {w:Bool} {el:TypeId} {e:SO} (hE:E=some (.own c w el)) (hu:c.Uses p) (he:(SO.own c w el).ren g=e):q5d p g E e :=
 ⟨c,w,el,_,hE,hu,.refl _,he.symm⟩
theorem q0k {p:Nat->Bool} {g:Nat->Nat} {E:Option SO} {c c':Cells} {w:Bool} {el:TypeId} (hE:E=some (.own c w el)) (hu:c.Uses p) (hc:(c.ren g).Imp c'):q5d p g E (.own c' w el) :=
 ⟨c,w,el,c',hE,hu,hc,rfl⟩
theorem qzh {f:Nat->Nat} {c c0:Cells} {e:SO} (h:e=.row c0\/∃ w el,e=.own c0 w el) (hi:c0.Front (c.ren f)):qrb f (.row c) e:=⟨c0,h,hi⟩
end
noncomputable section
variable {α β:Type}
theorem qna {b:Bool} {f g:R α} {φ:α->Prop} (h:b=true->f.Sat φ) (h':b=false->g.Sat φ):(boolC b f g).Sat φ:=by cases b <;> first | exact h rfl | exact h' rfl
theorem qfa {b:Bool} {f:R α} {n:Nat} {φ:α->Prop} (h:b=true->f.Sat φ):(boolC b f (.stuck n)).Sat φ:=qna h fun _=>trivial
theorem qja {o:Option β} {f:β->R α} {n:Nat} {φ:α->Prop} (h:∀ a,o=some a->(f a).Sat φ):(optC o (.stuck n) f).Sat φ:=by
 cases o with
 | none=>trivial
 | some a=>exact h a rfl
theorem qtb {b:Bool} {f:Option α} {s:α} (h:boolC b f none=some s):b=true/\f=some s:=by
 cases b with
 | true=>exact ⟨rfl,h⟩
 | false=>cases h
theorem qdf {o:Option β} {f:β->Option α} {s:α} (h:optC o none f=some s):∃ a,o=some a/\f a=some s:=by
 cases o with
 | none=>cases h
 | some a=>exact ⟨a,rfl,h⟩
theorem qcd {b:Bool} {f g:Option α} {s:α} (h:boolC b f g=some s):(b=true/\f=some s)\/g=some s:=by
 cases b with
 | true=>exact .inl ⟨rfl,h⟩
 | false=>exact .inr h
theorem qhm {x y:Int} (h:eqI x y=true):x=y:=by rw [qqi] at h; simpa using h
theorem qpa {x y:Nat} (h:Nat.beq x y=true):x=y:=Nat.eq_of_beq_eq_true h
theorem qmb {x y:Nat} (h:Nat.beq x y=false):x≠y:=fun e=>by subst e; rw [Nat.beq_refl] at h; cases h
theorem qnf {x y:Nat} (h:Nat.blt x y=true):x<y:=Nat.le_of_ble_eq_true h
theorem qag {k k':IntKind} (h:eqK k k'=true):k=k':=by cases k <;> cases k' <;> first | rfl | cases h
def bx (l:List (BitVec 8)):List SV:=mapN (fun x=>.int .u8 (.b8 x)) l
def lx (l:List Int):List SV:=mapN (fun x=>.int .u8 (.lit x)) l
theorem q2t (v:SV):(∃ b,v=.ptr b)\/∀ {γ:Type} (d:γ) (f:SA->γ),v.asPtr d f=d:=by
 cases v <;> first | exact .inl ⟨_,rfl⟩ | exact .inr fun _ _=>rfl
theorem qg2 {v:SV} {x:BitVec 8} (h:unb1 v=some x):∃ n,v=.int .u8 n/\si8 n=some x:=by
 unfold unb1 at h
 rcases qxc v with ⟨k,n,rfl⟩ | hv
 . obtain ⟨hk,h⟩:=qtb (show boolC (eqK k .u8) (si8 n) none=some x from h)
   rw [qag hk]; exact ⟨n,rfl,h⟩
 . rw [hv] at h; cases h
theorem qtg {v:SV} {x:BitVec 8} (h:unb1 v=some x):v.Imp (.int .u8 (.b8 x)):=by
 obtain ⟨n,rfl,hn⟩:=qg2 h
 intro γ y hy
 have hy:some (Value.int .u8 n.den)=some y:=hy
 rw [qt1 hn] at hy; exact hy
theorem qoa {v u:SV} {l m:List SV} (h:v.Imp u) (h':SV.ImpL l m):SV.ImpL (v::l) (u::m):=by
 intro γ vs hv
 obtain ⟨x,ys,a,b,rfl⟩:=denL_cons.1 hv
 exact denL_cons.2 ⟨x,ys,h _ _ a,h' _ _ b,rfl⟩
theorem q9b:SV.ImpL [] []:=.refl _
theorem qzi {a b c d:List SV} (h:SV.ImpL a b) (h':SV.ImpL c d):SV.ImpL (app a c) (app b d):=by
 intro γ vs hv
 rw [qib] at hv ⊢
 obtain ⟨x,y,ha,hc,rfl⟩:=q5o hv
 exact qif (h _ _ ha) (h' _ _ hc)
theorem qeh:∀ {l:List SV} {xs:List (BitVec 8)},unb l=some xs->SV.ImpL l (bx xs)
 | [],xs,h=>by cases h; exact .refl _
 | v::l,xs,h=>by
   obtain ⟨x,hx,h⟩:=qdf (show (optC (unb1 v) none fun x=>optC (unb l) none fun xs=>some (x::xs))=some xs from h)
   obtain ⟨ys,hy,h⟩:=qdf h
   cases h
   exact qoa (qtg hx) (qeh hy)
theorem q9d (f:Nat->Nat):∀ xs,SV.renL f (bx xs)=bx xs
 | []=>rfl
 | x::xs=>by show _::SV.renL f (bx xs)=_; rw [q9d f xs]; rfl
theorem q1k (f:Nat->Nat):∀ xs,SV.renL f (lx xs)=lx xs
 | []=>rfl
 | x::xs=>by show _::SV.renL f (lx xs)=_; rw [q1k f xs]; rfl
theorem qfd (p:Nat->Bool):∀ xs,SV.usesL p (bx xs)=true
 | []=>rfl
 | x::xs=>by show (true && SV.usesL p (bx xs))=true; rw [qfd p xs]; rfl
theorem q8i (p:Nat->Bool):∀ xs,SV.usesL p (lx xs)=true
 | []=>rfl
 | x::xs=>by show (true && SV.usesL p (lx xs))=true; rw [q8i p xs]; rfl
theorem q3e (p:Nat->Bool):∀ a b,SV.usesL p (app a b)=(SV.usesL p a && SV.usesL p b)
 | [],b=>rfl
 | x::a,b=>by show (x.uses p && SV.usesL p (app a b))=((x.uses p && SV.usesL p a) && SV.usesL p b); rw [q3e p a b,Bool.and_assoc]
theorem qof (f:Nat->Nat):∀ a b,SV.renL f (app a b)=app (SV.renL f a) (SV.renL f b)
 | [],b=>rfl
 | x::a,b=>by show _::SV.renL f (app a b)=_; rw [qof f a b]; rfl
theorem q9g (l:List SV) (n:Nat):app (qfb l n) (qyb l n)=l:=by rw [qib,qee,qqe,List.take_append_drop]
def unl1 (v:SV):Option Int:=v.asInt none fun k n=>boolC (eqK k .u8) (n.asLit none some) none
theorem qnr {v:SV} {x:Int} (h:unl1 v=some x):v=.int .u8 (.lit x):=by
 unfold unl1 at h
 rcases qxc v with ⟨k,n,rfl⟩ | hv
 . obtain ⟨hk,h⟩:=qtb (show boolC (eqK k .u8) (n.asLit none some) none=some x from h)
   rw [qag hk]
   cases n <;> first | (cases h; rfl) | cases h
 . rw [hv] at h; cases h
def q0h (T:List Int):List SV->Bool :=
 List.rec (motive:=fun _=>List SV->Bool) (fun _=>true) (fun t _ ih l=>List.rec (motive:=fun _=>Bool) false (fun v r _=>optC (unl1 v) false fun x=>boolC (eqI x t) (ih r) false) l) T
theorem qsi:∀ {T:List Int} {l:List SV},q0h T l=true->l=app (lx T) (qyb l (lenN T))
 | [],l,_=>by show l=qyb l 0; rw [qqe]; rfl
 | t::T,[],h=>by cases h
 | t::T,v::l,h=>by
   have h':(optC (unl1 v) false fun x=>boolC (eqI x t) (q0h T l) false)=true:=h
   cases hx:unl1 v with
   | none=>rw [hx] at h'; cases h'
   | some x =>
     rw [hx] at h'
     have h':boolC (eqI x t) (q0h T l) false=true:=h'
     cases he:eqI x t with
     | false=>rw [he] at h'; cases h'
     | true =>
       rw [he] at h'
       have:=qsi (T:=T) (l:=l) h'
       rw [qnr hx,qhm he]
       show _=_::app (lx T) (qyb (_::l) (lenN T+1))
       rw [qqe] at this ⊢
       rw [List.drop_succ_cons,← this]
def qic (e:Option SO):Option (List SV) :=
 optC e none fun e=>SO.rec (motive:=fun _=>Option (List SV)) (fun c _ _=>Cells.rec (motive:=fun _=>Option (List SV)) (fun l=>some l) (fun _ _=>none) c) (fun c=>Cells.rec (motive:=fun _=>Option (List SV)) (fun l=>some l) (fun _ _=>none) c)
  (fun _ _ _ _ _ _ _ _=>none) (fun _=>none) none (fun _=>none) e
theorem qon {e:Option SO} {l:List SV} (h:qic e=some l):∃ e',e=some e'/\(e'=.row (.lst l)\/∃ w el,e'=.own (.lst l) w el):=by
 cases e with
 | none=>cases h
 | some e =>
   cases e with
   | own c w el=>cases c with
     | lst l'=>cases h; exact ⟨_,rfl,.inr ⟨_,_,rfl⟩⟩
     | fn=>cases h
   | row c=>cases c with
     | lst l'=>cases h; exact ⟨_,rfl,.inl rfl⟩
     | fn=>cases h
   | loop=>cases h
   | deferred=>cases h
   | gone=>cases h
   | obj=>cases h
theorem q7b {f:Nat->Nat} {l m:List SV} {e:Option SO} (h:qic e=some l) (hi:SV.ImpL l (SV.renL f m)):∃ e',e=some e'/\qrb f (.row (.lst m)) e':=by
 obtain ⟨e',rfl,hc⟩:=qon h
 exact ⟨e',rfl,qzh hc (Cells.Imp.front (c:=.lst l) (d:=(Cells.lst m).ren f) hi)⟩
theorem qv4 {f:Nat->Nat} {l m r:List SV} {e:Option SO} (h:qic e=some (app l r)) (hi:SV.ImpL l (SV.renL f m)):∃ e',e=some e'/\qrb f (.row (.lst m)) e':=by
 obtain ⟨e',rfl,hc⟩:=qon h
 refine ⟨e',rfl,qzh hc fun γ vs hv => ?_⟩
 have hv:SV.denL γ (app l r)=some vs:=hv
 rw [qib] at hv
 obtain ⟨x,y,ha,hc,rfl⟩:=q5o hv
 exact ⟨x.length,by rw [List.take_left]; exact hi _ _ ha⟩
def ownE (t:TypeId) (e:Option SO):Option (List SV) :=
 optC e none fun e=>SO.rec (motive:=fun _=>Option (List SV)) (fun c w el=>boolC w (boolC (Nat.beq el t) (Cells.rec (motive:=fun _=>Option (List SV)) (fun l=>some l) (fun _ _=>none) c) none) none) (fun _=>none)
  (fun _ _ _ _ _ _ _ _=>none) (fun _=>none) none (fun _=>none) e
theorem qor {t:TypeId} {e:Option SO} {l:List SV} (h:ownE t e=some l):e=some (.own (.lst l) true t):=by
 cases e with
 | none=>cases h
 | some e =>
   cases e with
   | own c w el =>
     obtain ⟨hw,h⟩:=qtb (show boolC w (boolC (Nat.beq el t) (Cells.rec (motive:=fun _=>Option (List SV)) (fun l=>some l) (fun _ _=>none) c) none) none=some l from h)
     obtain ⟨he,h⟩:=qtb h
     rw [hw,qpa he]
     cases c with
     | lst l'=>cases h; rfl
     | fn=>cases h
   | row=>cases h
   | loop=>cases h
   | deferred=>cases h
   | gone=>cases h
   | obj=>cases h
theorem q0f {f:Nat->Nat} {l m:List SV} {w:Bool} {el:TypeId} (hi:SV.ImpL l (SV.renL f m)):qrb f (.own (.lst m) w el) (.own (.lst l) w el):=⟨_,rfl,hi⟩
def quc (e:Option SO):Bool:=optC e false fun e=>e.placed
theorem qxe {f:Nat->Nat} {e:Option SO} (h:quc e=true):∃ e',e=some e'/\qrb f .gone e':=by
 cases e with
 | none=>cases h
 | some e=>exact ⟨e,rfl,h⟩
def qeg (v:SV):Option Nat:=v.asPtr none fun a=>a.off.asLit none fun n=>boolC (Nat.beq n 0) (some a.nm) none
theorem q3c {v:SV} {p:Nat} (h:qeg v=some p):v=.ptr ⟨p,.lit 0⟩:=by
 unfold qeg at h
 rcases q2t v with ⟨⟨q,off⟩,rfl⟩ | hv
 . have h:(off.asLit none fun n=>boolC (Nat.beq n 0) (some q) none)=some p:=h
   cases off with
   | lit n =>
     obtain ⟨hn,h⟩:=qtb (show boolC (Nat.beq n 0) (some q) none=some p from h)
     cases h; rw [qpa hn]
   | sym n=>cases h
   | byt=>cases h
 . rw [hv] at h; cases h
def qgd (args:List SV) (f:SV->R α):R α:=List.rec (motive:=fun _=>R α) (.stuck 700) (fun v r _=>List.rec (motive:=fun _=>R α) (f v) (fun _ _ _=>.stuck 700) r) args
def qdd (args:List SV) (f:SV->SV->R α):R α:=List.rec (motive:=fun _=>R α) (.stuck 700) (fun v r _=>qgd r (f v)) args
def qoc (args:List SV) (f:SV->SV->SV->R α):R α:=List.rec (motive:=fun _=>R α) (.stuck 700) (fun v r _=>qdd r (f v)) args
def qop (args:List SV) (f:SV->SV->SV->SV->R α):R α:=List.rec (motive:=fun _=>R α) (.stuck 700) (fun v r _=>qoc r (f v)) args
theorem qub {args:List SV} {f:SV->R α} {φ:α->Prop} (h:∀ v,args=[v]->(f v).Sat φ):(qgd args f).Sat φ:=by
 match args,h with
 | [],_=>trivial
 | [v],h=>exact h v rfl
 | _::_::_,_=>trivial
theorem qnb {args:List SV} {f:SV->SV->R α} {φ:α->Prop} (h:∀ v u,args=[v,u]->(f v u).Sat φ):(qdd args f).Sat φ:=by
 cases args with
 | nil=>trivial
 | cons v r=>exact qub fun u hu=>h v u (by rw [hu])
theorem qcb {args:List SV} {f:SV->SV->SV->R α} {φ:α->Prop} (h:∀ v u x,args=[v,u,x]->(f v u x).Sat φ):(qoc args f).Sat φ:=by
 cases args with
 | nil=>trivial
 | cons v r=>exact qnb fun u x hu=>h v u x (by rw [hu])
theorem q1h {args:List SV} {f:SV->SV->SV->SV->R α} {φ:α->Prop} (h:∀ v u x y,args=[v,u,x,y]->(f v u x y).Sat φ):(qop args f).Sat φ:=by
 cases args with
 | nil=>trivial
 | cons v r=>exact qcb fun u x y hu=>h v u x y (by rw [hu])
def litI (v:SV):Option Nat:=v.asInt none fun k n=>boolC (eqK k .i64) (n.asLit none fun n=>intC n some fun _=>none) none
theorem qjf {v:SV} {n:Nat} (h:litI v=some n):v=.int .i64 (.lit (.ofNat n)):=by
 unfold litI at h
 rcases qxc v with ⟨k,m,rfl⟩ | hv
 . obtain ⟨hk,h⟩:=qtb (show boolC (eqK k .i64) (m.asLit none fun n=>intC n some fun _=>none) none=some n from h)
   rw [qag hk]
   cases m with
   | lit m=>cases m with
     | ofNat m=>cases h; rfl
     | negSucc m=>cases h
   | sym=>cases h
   | b8=>cases h
   | b32=>cases h
   | b64=>cases h
 . rw [hv] at h; cases h
theorem q2m {γ:Val} {v u:SV} {vs:List Value} (h:SV.denL γ [v]=some vs) (hi:v.Imp u):SV.denL γ [u]=some vs:=qoa hi q9b _ _ h
def outP (js:List Nat) (t:Tree):List Prop × Option (SV × List (Option SO)) :=
 Tree.rec (motive:=fun _=>List Prop × Option (SV × List (Option SO))) (fun v H=>([],some (v,mapN (fun j=>nth H j) js))) (fun _=>([],none)) (fun p _ ih=>(p::ih.1,ih.2)) (fun _ _ _ _ _=>([],none)) (fun _=>([],none)) (fun _ _=>([],none)) t
theorem qfh {js:List Nat} {t:Tree} {ps:List Prop} {v:SV} {es:List (Option SO)} (h:outP js t=(ps,some (v,es))) (hp:∀ p∈ps,p) {D:SV->List SO->Prop} {S:SS->Prop} (hD:∀ H:List SO,js.map (fun j=>H[j]?)=es->D v H):t.Ob D S:=by
 induction t generalizing ps with
 | done v' H =>
   have h':([],some (v',mapN (fun j=>nth H j) js))=(ps,some (v,es)):=h
   have h1:=Option.some.inj (Prod.mk.inj h').2
   obtain ⟨h2,h3⟩:=Prod.mk.inj h1
   subst h2
   refine hD H ?_
   rw [qwa] at h3
   rw [← h3]
   exact List.map_congr_left fun j _=>(qga H j).symm
 | stop=>cases (Prod.mk.inj (show ([],none)=(ps,some (v,es)) from h)).2
 | need p t ih =>
   have h':(p::(outP js t).1,(outP js t).2)=(ps,some (v,es)):=h
   obtain ⟨h1,h2⟩:=Prod.mk.inj h'
   subst h1
   exact ⟨hp p List.mem_cons_self,ih (ps:=(outP js t).1) (by rw [← h2]) fun q hq=>hp q (List.mem_cons_of_mem _ hq)⟩
 | fork=>cases (Prod.mk.inj (show ([],none)=(ps,some (v,es)) from h)).2
 | stuck=>cases (Prod.mk.inj (show ([],none)=(ps,some (v,es)) from h)).2
 | any=>cases (Prod.mk.inj (show ([],none)=(ps,some (v,es)) from h)).2
theorem qpp {js:List Nat} {t:Tree} {v:SV} {es:List (Option SO)} (h:outP js t=([],some (v,es))) {D:SV->List SO->Prop} {S:SS->Prop} (hD:∀ H:List SO,js.map (fun j=>H[j]?)=es->D v H):t.Ob D S :=
 qfh h (by simp) hD
theorem q5c {H:List SO} {args:List SV} (hu:SV.usesL (Ifc.known ⟨[],[],args⟩) args=true):Ifc.Fits ⟨[],[],args⟩ H:=Ifc.fits (by simp) hu trivial
theorem qkb {I:Ifc} {base:Nat} {v:SV} {H:List SO} (ho:q6b I.ents 0=[]) (h:v=v.ren (I.out base [])) (hu:v.uses (I.seen [])=true):I.Ends base [] ⟨v,[],[]⟩ v H :=
 ⟨SV.imp_of_eq h.symm,hu,by rw [ho]; trivial,trivial⟩
end
noncomputable section
variable {α:Type}
def rowF (X:Nat->BitVec 8) (n:Nat):SO:=.row (.fn (qea X) n)
theorem qda (X:Nat->BitVec 8):IsB (qea X):=fun i=>⟨X i,rfl⟩
theorem jts {g:Nat->SV} (h:IsB g):qea (fun i=>byteOf (g i))=g:=by
 funext i
 obtain ⟨x,hx⟩:=h i
 show SV.int IntKind.u8 (SI.b8 (byteOf (g i)))=_
 rw [hx]; rfl
def qh2 (c:Cells) (f:(Nat->BitVec 8)->Nat->R α):R α :=
 Cells.rec (motive:=fun _=>R α) (fun l=>optC (unb l) (.stuck 710) fun xs=>f (qba xs) (lenN xs)) (fun g n=>.need (IsB g) (f (fun i=>byteOf (g i)) n)) c
def q4b (e:Option SO) (f:(Nat->BitVec 8)->Nat->R α):R α :=
 optC e (.stuck 711) fun e=>SO.rec (motive:=fun _=>R α) (fun c _ _=>qh2 c f) (fun c=>qh2 c f) (fun _ _ _ _ _ _ _ _=>.stuck 712) (fun _=>.stuck 712) (.stuck 712) (fun _=>.stuck 712) e
theorem qco {γ:Val}:∀ {xs:List (BitVec 8)} {vs:List Value},SV.denL γ (bx xs)=some vs->CellsRel γ (.fn (qea (qba xs)) xs.length) vs
 | [],vs,h=>by cases h; exact ⟨rfl,fun i x hx=>by simp at hx⟩
 | x::xs,vs,h=>by
   obtain ⟨v,us,hv,hu,rfl⟩:=denL_cons.1 (show SV.denL γ (.int .u8 (.b8 x)::bx xs)=some vs from h)
   obtain ⟨h1,h2⟩:=qco hu
   refine ⟨by simp [h1],fun i y hy => ?_⟩
   cases i with
   | zero =>
     simp at hy; subst hy
     cases hv; rfl
   | succ i =>
     have:=h2 i y (by simpa using hy)
     exact this
theorem qgw {c:Cells} {f:(Nat->BitVec 8)->Nat->R α} {φ:α->Prop} (h:∀ X n,c.Imp (.fn (qea X) n)->(f X n).Sat φ):(qh2 c f).Sat φ:=by
 cases c with
 | lst l =>
   refine qja fun xs hx=>h _ _ fun γ vs hv => ?_
   rw [qva]
   exact qco (qeh hx _ _ hv)
 | fn g n =>
   intro hg
   refine h _ _ ?_
   rw [jts hg]; exact .refl _
theorem q5a {e:Option SO} {f:(Nat->BitVec 8)->Nat->R α} {φ:α->Prop} (h:∀ X n,(∀ g,∃ e',e=some e'/\qrb g (rowF X n) e')->(f X n).Sat φ):(q4b e f).Sat φ:=by
 refine qja fun e' he => ?_
 cases e' with
 | own c w el=>exact qgw fun X n hi=>h X n fun g=>⟨_,he,qzh (c0:=c) (.inr ⟨w,el,rfl⟩) hi.front⟩
 | row c=>exact qgw fun X n hi=>h X n fun g=>⟨_,he,qzh (c0:=c) (.inl rfl) hi.front⟩
 | loop=>trivial
 | deferred=>trivial
 | gone=>trivial
 | obj=>trivial
theorem qya (p:Nat->Bool) (X:Nat->BitVec 8) (n:Nat):(rowF X n).CUses p:=fun _=>rfl
def qob (v:SV) (nil:R α) (f:SA->SN->R α):R α :=
 SV.rec (motive_1:=fun _=>R α) (motive_2:=fun _=>Unit) (fun _ _=>.stuck 713) (fun _=>.stuck 713) (fun _=>.stuck 713) (fun _=>.stuck 713) (.stuck 713) (fun a l _=>f a l) nil (fun _=>.stuck 713) (.stuck 713) (fun _ _ _ _ _=>.stuck 713) (.stuck 713) (fun _ _ _=>.stuck 713) (.stuck 713) (fun _ _=>.stuck 713) (fun _ _=>.stuck 713) (fun _=>.stuck 713) (fun _ _ _ _=>.stuck 713) () (fun _ _ _ _=>()) v
theorem q8a {γ:Val} {a:SA} {l:SN} {c:SC} {x:Value} (h:(SV.slice a l c).den γ=some x):∃ m,l.den<=m/\(SV.slice ⟨a.nm,.sym a.off.den⟩ (.sym l.den) (.sym m)).den γ=some x/\(SV.slice ⟨a.nm,.sym a.off.den⟩ l (.sym m)).den γ=some x/\(SV.slice a l (.sym m)).den γ=some x:=by
 simp only [SV.den,Option.bind_eq_some_iff] at h
 obtain ⟨y,hy,m,hm,hs⟩:=h
 unfold q5l at hs
 have hl:l.den<=m:=by
  by_cases h:l.den<=m
  . exact h
  . rw [if_neg h] at hs; cases hs
 have hy':(⟨a.nm,.sym a.off.den⟩:SA).den γ=some y:=hy
 refine ⟨m,hl,?_,?_,?_⟩
 . simp only [SV.den,Option.bind_eq_some_iff]
   exact ⟨y,hy',m,rfl,hs⟩
 . simp only [SV.den,Option.bind_eq_some_iff]
   exact ⟨y,hy',m,rfl,hs⟩
 . simp only [SV.den,Option.bind_eq_some_iff]
   exact ⟨y,hy,m,rfl,hs⟩
theorem qxa {v:SV} {nil:R α} {f:SA->SN->R α} {φ:α->Prop} (h0:v=.nilSlice->nil.Sat φ) (h:∀ a l c,v=.slice a l c->(f a l).Sat φ):(qob v nil f).Sat φ:=by
 cases v <;> first | trivial | exact h0 rfl | exact h _ _ _ rfl
def valS (v:SV) (no:R α) (f:Nat->R α):R α:=v.asVal no fun x=>match x with | .slice _ n _=>f n | _=>no
theorem qqp {v:SV} {no:R α} {f:Nat->R α} {φ:α->Prop} (h0:no.Sat φ) (h:∀ p n c,v=.val (.slice p n c)->(f n).Sat φ):(valS v no f).Sat φ:=by
 cases v <;> first | exact h0 | skip
 rename_i x
 cases x <;> first | exact h0 | exact h _ _ _ rfl
def qod (l:SN) (n:Nat) (t f:R α):R α:=SN.rec (motive:=fun _=>R α) (fun m=>boolC (Nat.beq m n) t f) (fun m=>.fork (decide (m=n)) t f) (fun o x=>.fork (decide (o+x.toNat=n)) t f) l
theorem qxb {l:SN} {n:Nat} {t f:R α} {φ:α->Prop} (h:l.den=n->t.Sat φ) (h':l.den≠n->f.Sat φ):(qod l n t f).Sat φ:=by
 cases l with
 | lit m=>exact qna (fun hm=>h (qpa hm)) fun hm=>h' (qmb hm)
 | sym m=>exact ⟨fun hm=>h (of_decide_eq_true hm),fun hm=>h' (of_decide_eq_false hm)⟩
 | byt o x=>exact ⟨fun hm=>h (of_decide_eq_true hm),fun hm=>h' (of_decide_eq_false hm)⟩
def outF (js:List Nat) (t:Tree):Option (Bool × (List Prop × Option (SV × List (Option SO))) × (List Prop × Option (SV × List (Option SO)))) :=
 Tree.rec (motive:=fun _=>Option (Bool × (List Prop × Option (SV × List (Option SO))) × (List Prop × Option (SV × List (Option SO))))) (fun _ _=>none) (fun _=>none) (fun _ _ _=>none) (fun b t f _ _=>some (b,outP js t,outP js f)) (fun _=>none) (fun _ _=>none) t
theorem jqn {js:List Nat} {t:Tree} {b:Bool} {o o':List Prop × Option (SV × List (Option SO))} (h:outF js t=some (b,o,o')) {D:SV->List SO->Prop} {S:SS->Prop}
  (ht:b=true->∀ t',outP js t'=o->t'.Ob D S) (hf:b=false->∀ t',outP js t'=o'->t'.Ob D S):t.Ob D S:=by
 cases t with
 | fork b' t f =>
   have h':some (b',outP js t,outP js f)=some (b,o,o'):=h
   obtain ⟨h1,h2⟩:=Prod.mk.inj (Option.some.inj h')
   obtain ⟨h3,h4⟩:=Prod.mk.inj h2
   subst h1
   exact ⟨fun hb=>ht hb t h3,fun hb=>hf hb f h4⟩
 | done=>cases h
 | stop=>cases h
 | need=>cases h
 | stuck=>cases h
 | any=>cases h
theorem qim {c:Cfg} (hc:CfgOK c) (n:Nat) {O:Nat->Prop} {w0 w:World} {β:Val} {H:List SO} {base:Nat} {f:FuncId} {vs:List Value} (hH:HeapRel0 c.P O w0 β H w)
  (I:Ifc) (hgl:∀ g j,c.glob g=some j->I.known j=true/\∃ l,β (I.big j)=some l/\l.blk=g/\l.off=0) (ha:SV.denL β (SV.renL I.big I.args)=some vs) (hI:I.Fits H) {r:SumRes} (keep:List Nat) (hk:∀ j∈keep,I.names.length<=j) (hkn:keep.Nodup)
  {js:List Nat} {ps:List Prop} {v:SV} {es:List (Option SO)} (h:outP js (qca c n f I.args I.ents)=(ps,some (v,es))) (hp:∀ p∈ps,p) (hD:∀ H2:List SO,js.map (fun j=>H2[j]?)=es->I.Ends base keep r v H2):q4a c.P H β w base f vs r :=
 qsg hc n hH I hgl ha hI keep hk hkn (qfh h hp hD)
theorem qkg {c:Cfg} (hc:CfgOK c) (hgl:c.glob=fun _=>none) (n:Nat) {O:Nat->Prop} {w0 w:World} {β:Val} {H:List SO} {base:Nat} {f:FuncId} {vs:List Value} (hH:HeapRel0 c.P O w0 β H w)
  (I:Ifc) (ha:SV.denL β (SV.renL I.big I.args)=some vs) (hI:I.Fits H) {r:SumRes} (keep:List Nat) (hk:∀ j∈keep,I.names.length<=j) (hkn:keep.Nodup)
  {js:List Nat} {ps:List Prop} {v:SV} {es:List (Option SO)} (h:outP js (qca c n f I.args I.ents)=(ps,some (v,es))) (hp:∀ p∈ps,p) (hD:∀ H2:List SO,js.map (fun j=>H2[j]?)=es->I.Ends base keep r v H2):q4a c.P H β w base f vs r :=
 que hc hgl n hH I ha hI keep hk hkn (qfh h hp hD)
theorem qru {c:Cfg} (hc:CfgOK c) (hgl:c.glob=fun _=>none) (n:Nat) {O:Nat->Prop} {w0 w:World} {β:Val} {H:List SO} {base:Nat} {f:FuncId} {vs:List Value} (hH:HeapRel0 c.P O w0 β H w)
  (I:Ifc) (ha:SV.denL β (SV.renL I.big I.args)=some vs) (hI:I.Fits H) {r:SumRes} (keep:List Nat) (hk:∀ j∈keep,I.names.length<=j) (hkn:keep.Nodup)
  {js:List Nat} {b:Bool} {o o':List Prop × Option (SV × List (Option SO))} (h:outF js (qca c n f I.args I.ents)=some (b,o,o')) (ht:b=true->∀ t',outP js t'=o->t'.Ob (I.Ends base keep r) fun _=>False) (hf:b=false->∀ t',outP js t'=o'->t'.Ob (I.Ends base keep r) fun _=>False):q4a c.P H β w base f vs r :=
 que hc hgl n hH I ha hI keep hk hkn (jqn h ht hf)
end
end Go.Sim
namespace Go.Proofs.YtcpafideogckmaaGreatDoor.Aes
noncomputable section
open Go.Sim
open Go.Proofs
variable {α:Type}
theorem jtc:ProgOK Tryz.prog:=by
 refine ⟨?_,by kernel_rfl⟩
 have h:(Tryz.prog.funcs.all fun fn => !(fn.body.isSome && fn.name == "runtime.NumGoroutine"))=true:=by kernel_rfl
 intro f fn hf hb
 have:=Array.all_eq_true'.1 h fn (Array.mem_of_getElem? hf)
 rw [hb] at this
 simpa using this
def cfgG (glob:Nat->Option Nat) (s:FuncId->Option Summ):Cfg:={ P:=Tryz.prog,glob:=glob,sums:=s,stopAt:=none }
def qle (s:FuncId->Option Summ):Cfg:=cfgG (fun _=>none) s
def qbb (l:List (FuncId × Summ)):FuncId->Option Summ:=List.rec (motive:=fun _=>FuncId->Option Summ) (fun _=>none) (fun a _ ih f=>boolC (Nat.beq f a.1) (some a.2) (ih f)) l
theorem qwb {glob:Nat->Option Nat}:∀ {l:List (FuncId × Summ)},(∀ x∈l,SumAt Tryz.prog glob x.1 x.2)->CfgOK (cfgG glob (qbb l))
 | [],_=>⟨jtc,fun _ _ h=>by cases h⟩
 | a::l,hl=>⟨jtc,fun f s h=>by
   rcases qcd (show boolC (Nat.beq f a.1) (some a.2) (qbb l f)=some s from h) with ⟨hf,h⟩ | h
   . cases h; rw [qpa hf]; exact hl a List.mem_cons_self
   . exact (qwb (l:=l) fun x hx=>hl x (List.mem_cons_of_mem _ hx)).sums f s h⟩
theorem q8b {l:List (FuncId × Summ)} (h:∀ x∈l,q3a Tryz.prog x.1 x.2):CfgOK (qle (qbb l)):=qwb fun x hx=>h x hx _
theorem all1 {x:FuncId × Summ} (h:q3a Tryz.prog x.1 x.2):∀ y∈[x],q3a Tryz.prog y.1 y.2:=by simpa using h
theorem allC {x:FuncId × Summ} {l:List (FuncId × Summ)} (h:q3a Tryz.prog x.1 x.2) (h':∀ y∈l,q3a Tryz.prog y.1 y.2):∀ y∈x::l,q3a Tryz.prog y.1 y.2:=by
 intro y hy
 rcases List.mem_cons.1 hy with rfl | hy
 . exact h
 . exact h' y hy
def cfg0:Cfg:=qle (qbb [])
theorem q4c:CfgOK cfg0:=q8b (by simp)
def qwi (x:BitVec 8):R SumRes:=.ok ⟨.int .u8 (.b8 x),[],[]⟩
end
noncomputable section
open Go.Sim
open Go.Proofs
variable {α:Type}
def dbl (x:BitVec 8):BitVec 8:=if 128<=x.toNat then x <<< 1 ^^^ 27#8 else x <<< 1
def dblS:Summ:=fun args _ _=>qgd args fun v=>optC (unb1 v) (.stuck 600) fun x=>qwi (dbl x)
theorem jrn (x:BitVec 8):qca cfg0 100 118 [.int .u8 (.b8 x)] []=.fork (decide ((x.toNat:Int)>=128)) (.done (.int .u8 (.b8 (x <<< 1 ^^^ BitVec.ofInt 8 27))) []) (.done (.int .u8 (.b8 (x <<< 1))) []):=by kernel_rfl
theorem qg8:q3a Tryz.prog 118 dblS:=by
 intro glob O w0 β H w base args vs hH hG ha
 refine qub fun v hv=>qja fun x hx => ?_
 subst hv
 refine que q4c rfl 100 hH ⟨[],[],[.int .u8 (.b8 x)]⟩ (q2m ha (qtg hx)) (q5c rfl) [] (by simp) (by simp) ?_
 rw [jrn]
 refine ⟨fun h => ?_,fun h => ?_⟩
 . have e:dbl x=x <<< 1 ^^^ BitVec.ofInt 8 27:=by
    have:128<=x.toNat:=by have:=of_decide_eq_true h; omega
    unfold dbl; rw [if_pos this]; rfl
   rw [e]; exact qkb rfl rfl rfl
 . have e:dbl x=x <<< 1:=by
    have:¬ 128<=x.toNat:=by have:=of_decide_eq_false h; omega
    unfold dbl; rw [if_neg this]
   rw [e]; exact qkb rfl rfl rfl
def m9 (x:BitVec 8):BitVec 8:=x ^^^ dbl (dbl (dbl x))
def m11 (x:BitVec 8):BitVec 8:=x ^^^ dbl x ^^^ dbl (dbl (dbl x))
def m13 (x:BitVec 8):BitVec 8:=x ^^^ dbl (dbl x) ^^^ dbl (dbl (dbl x))
def m14 (x:BitVec 8):BitVec 8:=dbl x ^^^ dbl (dbl x) ^^^ dbl (dbl (dbl x))
def m3 (x:BitVec 8):BitVec 8:=x ^^^ dbl x
def jus (n:Int) (x:BitVec 8):R SumRes :=
 boolC (eqI n 1) (qwi x) (boolC (eqI n 2) (qwi (dbl x)) (boolC (eqI n 3) (qwi (m3 x)) (boolC (eqI n 9) (qwi (m9 x)) (boolC (eqI n 11) (qwi (m11 x)) (boolC (eqI n 13) (qwi (m13 x)) (boolC (eqI n 14) (qwi (m14 x)) (.stuck 601)))))))
def qhw:Summ:=fun args _ _=>qdd args fun u v=>optC (unl1 u) (.stuck 601) fun n=>optC (unb1 v) (.stuck 601) fun x=>jus n x
def cfg1:Cfg:=qle (qbb [(118,dblS)])
theorem jvs:CfgOK cfg1:=q8b (all1 qg8)
theorem juc (x:BitVec 8) :
  qca cfg1 400 120 [.int .u8 (.lit 1),.int .u8 (.b8 x)] []=.done (.int .u8 (.b8 (BitVec.ofInt 8 0 ^^^ x))) [] /\
  qca cfg1 400 120 [.int .u8 (.lit 2),.int .u8 (.b8 x)] []=.done (.int .u8 (.b8 (BitVec.ofInt 8 0 ^^^ dbl x))) [] /\
  qca cfg1 400 120 [.int .u8 (.lit 3),.int .u8 (.b8 x)] []=.done (.int .u8 (.b8 (BitVec.ofInt 8 0 ^^^ x ^^^ dbl x))) [] /\
  qca cfg1 400 120 [.int .u8 (.lit 9),.int .u8 (.b8 x)] []=.done (.int .u8 (.b8 (BitVec.ofInt 8 0 ^^^ x ^^^ dbl (dbl (dbl x))))) [] /\
  qca cfg1 400 120 [.int .u8 (.lit 11),.int .u8 (.b8 x)] []=.done (.int .u8 (.b8 (BitVec.ofInt 8 0 ^^^ x ^^^ dbl x ^^^ dbl (dbl (dbl x))))) [] /\
  qca cfg1 400 120 [.int .u8 (.lit 13),.int .u8 (.b8 x)] []=.done (.int .u8 (.b8 (BitVec.ofInt 8 0 ^^^ x ^^^ dbl (dbl x) ^^^ dbl (dbl (dbl x))))) [] /\
  qca cfg1 400 120 [.int .u8 (.lit 14),.int .u8 (.b8 x)] []=.done (.int .u8 (.b8 (BitVec.ofInt 8 0 ^^^ dbl x ^^^ dbl (dbl x) ^^^ dbl (dbl (dbl x))))) []:=by
 refine ⟨?_,?_,?_,?_,?_,?_,?_⟩ <;> kernel_rfl
theorem jsn:q3a Tryz.prog 120 qhw:=by
 intro glob O w0 β H w base args vs hH hG ha
 refine qnb fun u v hv=>qja fun n hn=>qja fun x hx => ?_
 subst hv
 have hu:=qnr hn
 subst hu
 obtain ⟨h1,h2,h3,h9,h11,h13,h14⟩:=juc x
 have key:∀ (m:Int) (y z:BitVec 8) (o:R SumRes),qca cfg1 400 120 [.int .u8 (.lit m),.int .u8 (.b8 x)] []=.done (.int .u8 (.b8 z)) []->z=y->o.Sat (q4a Tryz.prog H β w base 120 vs) ->
   (boolC (eqI n m) (qwi y) o).Sat (q4a Tryz.prog H β w base 120 vs):=by
  intro m y z o hrun hz ho
  refine qna (fun hm => ?_) fun _=>ho
  have hn:=qhm hm
  subst hn; subst hz
  refine que jvs rfl 400 hH ⟨[],[],[.int .u8 (.lit n),.int .u8 (.b8 x)]⟩ (qoa (.refl _) (qoa (qtg hx) q9b) _ _ ha) (q5c rfl) [] (by simp) (by simp) ?_
  rw [hrun]
  exact qkb rfl rfl rfl
 have z0:BitVec.ofInt 8 0=0#8:=by rfl
 rw [z0] at h1 h2 h3 h9 h11 h13 h14
 refine key 1 _ _ _ h1 (by simp) (key 2 _ _ _ h2 (by simp) (key 3 _ _ _ h3 (by simp [m3]) (key 9 _ _ _ h9 (by simp [m9]) (key 11 _ _ _ h11 (by simp [m11]) (key 13 _ _ _ h13 (by simp [m13]) (key 14 _ _ _ h14 (by simp [m14]) ?_))))))
 trivial
def jvc (n:Nat):Nat:=(4 * (n / 4+n % 4)+n % 4) % 16
def qi2:Summ:=fun args _ _=>qgd args fun v=>optC (litI v) (.stuck 630) fun n=>boolC (Nat.blt n 16) (.ok ⟨.int .i64 (.lit (.ofNat (jvc n))),[],[]⟩) (.stuck 630)
theorem qw4 (n:Nat) (h:n<16):qca cfg0 200 111 [.int .i64 (.lit (.ofNat n))] []=.done (.int .i64 (.lit (.ofNat (jvc n)))) []:=by
 have h':n=0\/n=1\/n=2\/n=3\/n=4\/n=5\/n=6\/n=7\/n=8\/n=9\/n=10\/n=11\/n=12\/n=13\/n=14\/n=15:=by omega
 rcases h' with rfl | rfl | rfl | rfl | rfl | rfl | rfl | rfl | rfl | rfl | rfl | rfl | rfl | rfl | rfl | rfl <;> (show (_:Tree)=_) <;> kernel_rfl
theorem jwc:q3a Tryz.prog 111 qi2:=by
 intro glob O w0 β H w base args vs hH hG ha
 refine qub fun v hv=>qja fun n hn=>qfa fun hlt => ?_
 rw [hv,qjf hn] at ha
 refine que q4c rfl 200 hH ⟨[],[],[.int .i64 (.lit (.ofNat n))]⟩ ha (q5c rfl) [] (by simp) (by simp) ?_
 rw [qw4 n (qnf hlt)]
 exact qkb rfl rfl rfl
end
noncomputable section
open Go.Sim
open Go.Proofs
variable {α:Type}
def mixW (k:Bool) (a b c d:BitVec 8):BitVec 8:=if k then dbl a ^^^ m3 b ^^^ c ^^^ d else m14 a ^^^ m11 b ^^^ m13 c ^^^ m9 d
def qme (k:Bool) (l:List (BitVec 8)) (c r:Nat):BitVec 8:=mixW k (qba l (4 * c+r)) (qba l (4 * c+(r+1) % 4)) (qba l (4 * c+(r+2) % 4)) (qba l (4 * c+(r+3) % 4))
def qlg (k:Bool):List Int:=if k then [2,3,1,1] else [14,11,13,9]
def mixZ (k:Bool) (l:List (BitVec 8)) (c r:Nat):BitVec 8 :=
 if k then BitVec.ofInt 8 0 ^^^ dbl (qba l (4 * c+r)) ^^^ m3 (qba l (4 * c+(r+1) % 4)) ^^^ qba l (4 * c+(r+2) % 4) ^^^ qba l (4 * c+(r+3) % 4)
 else BitVec.ofInt 8 0 ^^^ m14 (qba l (4 * c+r)) ^^^ m11 (qba l (4 * c+(r+1) % 4)) ^^^ m13 (qba l (4 * c+(r+2) % 4)) ^^^ m9 (qba l (4 * c+(r+3) % 4))
def cfg2:Cfg:=qle (qbb [(118,dblS),(120,qhw)])
theorem jws:CfgOK cfg2:=q8b (allC qg8 (all1 jsn))
theorem jxc (k:Bool) (x0 x1 x2 x3 x4 x5 x6 x7 x8 x9 xa xb xc xd xe xf:BitVec 8) (c r:Nat) (hc:c<4) (hr:r<4) :
  outP [] (qca cfg2 600 119 [.int .i64 (.lit (.ofNat c)),.int .i64 (.lit (.ofNat r)),.ptr ⟨0,.lit 0⟩,.ptr ⟨1,.lit 0⟩] [.row (.lst (lx (qlg k))),.row (.lst (bx [x0,x1,x2,x3,x4,x5,x6,x7,x8,x9,xa,xb,xc,xd,xe,xf]))]) =
   ([],some (.int .u8 (.b8 (qme k [x0,x1,x2,x3,x4,x5,x6,x7,x8,x9,xa,xb,xc,xd,xe,xf] c r)),[])):=by
 have hz:∀ y:BitVec 8,BitVec.ofInt 8 0 ^^^ y=y:=fun y=>by
  have:BitVec.ofInt 8 0=0#8:=by rfl
  rw [this]; simp
 have h:∀ c r:Nat,c<4->r<4->outP [] (qca cfg2 600 119 [.int .i64 (.lit (.ofNat c)),.int .i64 (.lit (.ofNat r)),.ptr ⟨0,.lit 0⟩,.ptr ⟨1,.lit 0⟩] [.row (.lst (lx (qlg k))),.row (.lst (bx [x0,x1,x2,x3,x4,x5,x6,x7,x8,x9,xa,xb,xc,xd,xe,xf]))]) =
   ([],some (.int .u8 (.b8 (mixZ k [x0,x1,x2,x3,x4,x5,x6,x7,x8,x9,xa,xb,xc,xd,xe,xf] c r)),[])):=by
  intro c r hc hr
  have hc':c=0\/c=1\/c=2\/c=3:=by omega
  have hr':r=0\/r=1\/r=2\/r=3:=by omega
  cases k <;> rcases hc' with rfl | rfl | rfl | rfl <;> rcases hr' with rfl | rfl | rfl | rfl <;> (show (_:List Prop × Option (SV × List (Option SO)))=_) <;> kernel_rfl
 rw [h c r hc hr]
 cases k
 . simp only [mixZ,qme,mixW,hz]
 . simp only [mixZ,qme,mixW,hz]
def qqs (T:List Int) (l:List SV):Bool:=boolC (Nat.beq (lenN l) (lenN T)) (q0h T l) false
theorem qil {T:List Int} {l:List SV} (h:qqs T l=true):l=lx T:=by
 unfold qqs at h
 cases h1:Nat.beq (lenN l) (lenN T) with
 | false=>rw [h1] at h; cases h
 | true =>
   rw [h1] at h
   have h2:=qsi (show q0h T l=true from h)
   have h1:=qpa h1
   rw [h2,← h1,qva,qqe,List.drop_length,qib,List.append_nil]
theorem q6x {xs:List (BitVec 8)} (h:Nat.beq (lenN xs) 16=true):∃ x0 x1 x2 x3 x4 x5 x6 x7 x8 x9 xa xb xc xd xe xf,xs=[x0,x1,x2,x3,x4,x5,x6,x7,x8,x9,xa,xb,xc,xd,xe,xf]:=by
 have h:=qpa h
 rw [qva] at h
 match xs,h with
 | [x0,x1,x2,x3,x4,x5,x6,x7,x8,x9,xa,xb,xc,xd,xe,xf],_=>exact ⟨_,_,_,_,_,_,_,_,_,_,_,_,_,_,_,_,rfl⟩
def qiw (H:List SO) (k:Bool) (c r a b:Nat) (o:R SumRes):R SumRes :=
 optC (qic (nth H a)) o fun l=>boolC (qqs (qlg k) l) (optC (qic (nth H b)) (.stuck 612) fun l=>optC (unb l) (.stuck 611) fun xs=>boolC (Nat.beq (lenN xs) 16) (qwi (qme k xs c r)) (.stuck 612)) o
def jyc:Summ:=fun args H _=>qop args fun c r a b=>optC (litI c) (.stuck 613) fun c=>optC (litI r) (.stuck 613) fun r=>optC (qeg a) (.stuck 613) fun a=>optC (qeg b) (.stuck 613) fun b =>
 boolC (Nat.blt c 4) (boolC (Nat.blt r 4) (boolC (Nat.beq a b) (.stuck 613) (qiw H true c r a b (qiw H false c r a b (.stuck 614)))) (.stuck 615)) (.stuck 615)
theorem jtn:q3a Tryz.prog 119 jyc:=by
 intro glob O w0 β H w base args vs hH hG ha
 refine q1h fun v1 v2 v3 v4 hv=>qja fun c h1=>qja fun r h2=>qja fun a h3=>qja fun b h4=>qfa fun hc=>qfa fun hr=>qna (fun _=>trivial) fun hab => ?_
 rw [hv,qjf h1,qjf h2,q3c h3,q3c h4] at ha
 have key:∀ (k:Bool) (o:R SumRes),o.Sat (q4a Tryz.prog H β w base 119 vs)->(qiw H k c r a b o).Sat (q4a Tryz.prog H β w base 119 vs):=by
  intro k o ho
  unfold qiw
  cases hl:qic (nth H a) with
  | none=>exact ho
  | some l =>
    refine qna (fun hk=>qja fun m hm=>qja fun xs hx=>qfa fun h16 => ?_) fun _=>ho
    have hl2:=qil hk
    subst hl2
    obtain ⟨x0,x1,x2,x3,x4,x5,x6,x7,x8,x9,xa,xb,xc,xd,xe,xf,rfl⟩:=q6x h16
    rw [qga] at hl hm
    exact qkg jws rfl 600 hH ⟨[a,b],[.row (.lst (lx (qlg k))),.row (.lst (bx [x0,x1,x2,x3,x4,x5,x6,x7,x8,x9,xa,xb,xc,xd,xe,xf]))],[.int .i64 (.lit (.ofNat c)),.int .i64 (.lit (.ofNat r)),.ptr ⟨0,.lit 0⟩,.ptr ⟨1,.lit 0⟩]⟩
     ha (Ifc.fits (by simpa using qmb hab) rfl ⟨⟨q7b hl (by rw [q1k]; exact .refl _),q8i _ _⟩,⟨q7b hm (by rw [q9d]; exact qeh hx),qfd _ _⟩,trivial⟩) [] (by simp) (by simp)
     (jxc k _ _ _ _ _ _ _ _ _ _ _ _ _ _ _ _ c r (qnf hc) (qnf hr)) (by simp) fun H2 _=>qkb rfl rfl rfl
 exact key true _ (key false _ trivial)
def subs:List Nat :=
 [0x63,0x7c,0x77,0x7b,0xf2,0x6b,0x6f,0xc5,0x30,0x01,0x67,0x2b,0xfe,0xd7,0xab,0x76,0xca,0x82,0xc9,0x7d,0xfa,0x59,0x47,0xf0,0xad,0xd4,0xa2,0xaf,0x9c,0xa4,0x72,0xc0,
  0xb7,0xfd,0x93,0x26,0x36,0x3f,0xf7,0xcc,0x34,0xa5,0xe5,0xf1,0x71,0xd8,0x31,0x15,0x04,0xc7,0x23,0xc3,0x18,0x96,0x05,0x9a,0x07,0x12,0x80,0xe2,0xeb,0x27,0xb2,0x75,
  0x09,0x83,0x2c,0x1a,0x1b,0x6e,0x5a,0xa0,0x52,0x3b,0xd6,0xb3,0x29,0xe3,0x2f,0x84,0x53,0xd1,0x00,0xed,0x20,0xfc,0xb1,0x5b,0x6a,0xcb,0xbe,0x39,0x4a,0x4c,0x58,0xcf,
  0xd0,0xef,0xaa,0xfb,0x43,0x4d,0x33,0x85,0x45,0xf9,0x02,0x7f,0x50,0x3c,0x9f,0xa8,0x51,0xa3,0x40,0x8f,0x92,0x9d,0x38,0xf5,0xbc,0xb6,0xda,0x21,0x10,0xff,0xf3,0xd2,
  0xcd,0x0c,0x13,0xec,0x5f,0x97,0x44,0x17,0xc4,0xa7,0x7e,0x3d,0x64,0x5d,0x19,0x73,0x60,0x81,0x4f,0xdc,0x22,0x2a,0x90,0x88,0x46,0xee,0xb8,0x14,0xde,0x5e,0x0b,0xdb,
  0xe0,0x32,0x3a,0x0a,0x49,0x06,0x24,0x5c,0xc2,0xd3,0xac,0x62,0x91,0x95,0xe4,0x79,0xe7,0xc8,0x37,0x6d,0x8d,0xd5,0x4e,0xa9,0x6c,0x56,0xf4,0xea,0x65,0x7a,0xae,0x08,
  0xba,0x78,0x25,0x2e,0x1c,0xa6,0xb4,0xc6,0xe8,0xdd,0x74,0x1f,0x4b,0xbd,0x8b,0x8a,0x70,0x3e,0xb5,0x66,0x48,0x03,0xf6,0x0e,0x61,0x35,0x57,0xb9,0x86,0xc1,0x1d,0x9e,
  0xe1,0xf8,0x98,0x11,0x69,0xd9,0x8e,0x94,0x9b,0x1e,0x87,0xe9,0xce,0x55,0x28,0xdf,0x8c,0xa1,0x89,0x0d,0xbf,0xe6,0x42,0x68,0x41,0x99,0x2d,0x0f,0xb0,0x54,0xbb,0x16]
def recs:List Nat :=
 [0x52,0x09,0x6a,0xd5,0x30,0x36,0xa5,0x38,0xbf,0x40,0xa3,0x9e,0x81,0xf3,0xd7,0xfb,0x7c,0xe3,0x39,0x82,0x9b,0x2f,0xff,0x87,0x34,0x8e,0x43,0x44,0xc4,0xde,0xe9,0xcb,
  0x54,0x7b,0x94,0x32,0xa6,0xc2,0x23,0x3d,0xee,0x4c,0x95,0x0b,0x42,0xfa,0xc3,0x4e,0x08,0x2e,0xa1,0x66,0x28,0xd9,0x24,0xb2,0x76,0x5b,0xa2,0x49,0x6d,0x8b,0xd1,0x25,
  0x72,0xf8,0xf6,0x64,0x86,0x68,0x98,0x16,0xd4,0xa4,0x5c,0xcc,0x5d,0x65,0xb6,0x92,0x6c,0x70,0x48,0x50,0xfd,0xed,0xb9,0xda,0x5e,0x15,0x46,0x57,0xa7,0x8d,0x9d,0x84,
  0x90,0xd8,0xab,0x00,0x8c,0xbc,0xd3,0x0a,0xf7,0xe4,0x58,0x05,0xb8,0xb3,0x45,0x06,0xd0,0x2c,0x1e,0x8f,0xca,0x3f,0x0f,0x02,0xc1,0xaf,0xbd,0x03,0x01,0x13,0x8a,0x6b,
  0x3a,0x91,0x11,0x41,0x4f,0x67,0xdc,0xea,0x97,0xf2,0xcf,0xce,0xf0,0xb4,0xe6,0x73,0x96,0xac,0x74,0x22,0xe7,0xad,0x35,0x85,0xe2,0xf9,0x37,0xe8,0x1c,0x75,0xdf,0x6e,
  0x47,0xf1,0x1a,0x71,0x1d,0x29,0xc5,0x89,0x6f,0xb7,0x62,0x0e,0xaa,0x18,0xbe,0x1b,0xfc,0x56,0x3e,0x4b,0xc6,0xd2,0x79,0x20,0x9a,0xdb,0xc0,0xfe,0x78,0xcd,0x5a,0xf4,
  0x1f,0xdd,0xa8,0x33,0x88,0x07,0xc7,0x31,0xb1,0x12,0x10,0x59,0x27,0x80,0xec,0x5f,0x60,0x51,0x7f,0xa9,0x19,0xb5,0x4a,0x0d,0x2d,0xe5,0x7a,0x9f,0x93,0xc9,0x9c,0xef,
  0xa0,0xe0,0x3b,0x4d,0xae,0x2a,0xf5,0xb0,0xc8,0xeb,0xbb,0x3c,0x83,0x53,0x99,0x61,0x17,0x2b,0x04,0x7e,0xba,0x77,0xd6,0x26,0xe1,0x69,0x14,0x63,0x55,0x21,0x0c,0x7d]
def tabN:List Nat:=subs++recs
def qsj (i:Nat):BitVec 8:=BitVec.ofNat 8 ((tabN[i]?).getD 0)
def tabI:List Int:=tabN.map Int.ofNat
def subB (x:BitVec 8):BitVec 8:=qsj x.toNat
def recB (x:BitVec 8):BitVec 8:=qsj (256+x.toNat)
theorem jun:tabN.all (fun n=>Nat.blt n 256)=true:=by kernel_rfl
theorem jzc:∀ n∈tabN,n<256:=fun n h=>qnf (List.all_eq_true.1 jun n h)
theorem jvn:tabN.length=512:=by kernel_rfl
theorem jxs {T:List Int} {γ:Val} {vs:List Value} (h:SV.denL γ (lx T)=some vs):vs=T.map (Value.int .u8):=by
 induction T generalizing vs with
 | nil=>cases h; rfl
 | cons t T ih =>
   obtain ⟨x,ys,hx,hy,rfl⟩:=denL_cons.1 (show SV.denL γ (.int .u8 (.lit t)::lx T)=some vs from h)
   rw [ih hy]; cases hx; rfl
def tabG (i:Nat):SV:=.int .u8 (.b8 (qsj i))
def tabE (e:Option SO):Bool:=optC (qic e) false (q0h tabI)
theorem qaz {e:Option SO} (h:tabE e=true):∃ r,qic e=some (app (lx tabI) r):=by
 unfold tabE at h
 cases hl:qic e with
 | none=>rw [hl] at h; cases h
 | some l =>
   rw [hl] at h
   exact ⟨_,by rw [← qsi (show q0h tabI l=true from h)]⟩
theorem qbz {f:Nat->Nat} {e:Option SO} (h:tabE e=true):∃ e',e=some e'/\qrb f (.row (.lst (lx tabI))) e':=by
 obtain ⟨r,hr⟩:=qaz h
 exact qv4 hr (by rw [q1k]; exact .refl _)
theorem qh8 {f:Nat->Nat} {e:Option SO} (h:tabE e=true):∃ e',e=some e'/\qrb f (.row (.fn tabG 512)) e':=by
 obtain ⟨r,hr⟩:=qaz h
 obtain ⟨e',rfl,hc⟩:=qon hr
 refine ⟨e',rfl,qzh hc fun γ vs hv=>⟨512,?_⟩⟩
 have hv:SV.denL γ (app (lx tabI) r)=some vs:=hv
 rw [qib] at hv
 obtain ⟨x,y,hx,hy,rfl⟩:=q5o hv
 have hx:=jxs hx
 have hl:x.length=512:=by rw [hx]; simp [tabI,jvn]
 rw [List.take_append_of_le_length (by omega),List.take_of_length_le (by omega)]
 refine ⟨hl,fun i u hu => ?_⟩
 rw [hx,tabI,List.map_map,List.getElem?_map] at hu
 cases hn:tabN[i]? with
 | none=>rw [hn] at hu; cases hu
 | some n =>
   rw [hn] at hu; cases hu
   have:=jzc n (List.mem_of_getElem? hn)
   show some (Value.int .u8 (((qsj i).toNat:Nat):Int))=_
   unfold qsj
   rw [hn,Option.getD_some,BitVec.toNat_ofNat,Nat.mod_eq_of_lt (by omega)]
   rfl
def qrs (F:BitVec 8->BitVec 8):Summ:=fun args H _=>qdd args fun c v=>optC (qeg c) (.stuck 640) fun c=>optC (unb1 v) (.stuck 640) fun x=>boolC (tabE (nth H c)) (qwi (F x)) (.stuck 641)
theorem qx4 (x:BitVec 8):outP [] (qca cfg0 200 117 [.ptr ⟨0,.lit 0⟩,.int .u8 (.b8 x)] [.row (.fn tabG 512)]) =
  ([0+x.toNat<512],some (.int .u8 (.b8 (qsj (0+x.toNat))),[])):=by kernel_rfl
theorem qi8 (x:BitVec 8):outP [] (qca cfg0 200 112 [.ptr ⟨0,.lit 0⟩,.int .u8 (.b8 x)] [.row (.fn tabG 512)]) =
  ([256+x.toNat<512],some (.int .u8 (.b8 (qsj (256+x.toNat))),[])):=by kernel_rfl
theorem j0c {f:FuncId} {F:BitVec 8->BitVec 8} {k:Nat} (hk:k+256<=512) (hF:∀ x,F x=qsj (k+x.toNat)) (h:∀ x:BitVec 8,outP [] (qca cfg0 200 f [.ptr ⟨0,.lit 0⟩,.int .u8 (.b8 x)] [.row (.fn tabG 512)]) =
  ([k+x.toNat<512],some (.int .u8 (.b8 (qsj (k+x.toNat))),[]))):q3a Tryz.prog f (qrs F):=by
 intro glob O w0 β H w base args vs hH hG ha
 refine qnb fun c v hv=>qja fun c h1=>qja fun x hx=>qfa fun ht => ?_
 rw [hv,q3c h1] at ha
 rw [qga] at ht
 have hx2:=x.isLt
 refine qkg q4c rfl 200 hH ⟨[c],[.row (.fn tabG 512)],[.ptr ⟨0,.lit 0⟩,.int .u8 (.b8 x)]⟩ (qoa (.refl _) (qoa (qtg hx) q9b) _ _ ha) (Ifc.fits (by simp) rfl ⟨⟨qh8 ht,fun _=>rfl⟩,trivial⟩) [] (by simp) (by simp)
  (h x) ?_ fun H2 _ => ?_
 . intro p hp
   rcases List.mem_cons.1 hp with rfl | hp
   . omega
   . cases hp
 . rw [← hF]; exact qkb rfl rfl rfl
theorem qcz:q3a Tryz.prog 117 (qrs subB):=j0c (k:=0) (by omega) (fun x=>by rw [Nat.zero_add]; rfl) qx4
theorem jig:q3a Tryz.prog 112 (qrs recB):=j0c (k:=256) (by omega) (fun _=>rfl) qi8
end
noncomputable section
open Go.Sim
open Go.Proofs
variable {α:Type}
def qss (c:Nat) (xs ks:List (BitVec 8)):List SV:=.ptr ⟨c,.lit 0⟩::app (bx xs) (bx ks)
def qts (c:Nat) (xs ks:List (BitVec 8)):SO:=.own (.lst (qss c xs ks)) true 126
def jbl (l:List SV) (f:Nat->List (BitVec 8)->List (BitVec 8)->R α):R α :=
 List.rec (motive:=fun _=>R α) (.stuck 622) (fun v l _=>optC (qeg v) (.stuck 622) fun c=>optC (unb (qfb l 16)) (.stuck 623) fun xs=>optC (unb (qyb l 16)) (.stuck 623) fun ks =>
  boolC (Nat.beq (lenN xs) 16) (boolC (Nat.beq (lenN ks) 16) (f c xs ks) (.stuck 624)) (.stuck 624)) l
theorem j1c {l:List SV} {f:Nat->List (BitVec 8)->List (BitVec 8)->R α} {φ:α->Prop} (h:∀ c xs ks,SV.ImpL l (qss c xs ks)->Nat.beq (lenN xs) 16=true->Nat.beq (lenN ks) 16=true->(f c xs ks).Sat φ):(jbl l f).Sat φ:=by
 cases l with
 | nil=>trivial
 | cons v l =>
   refine qja fun c h1=>qja fun xs hx=>qja fun ks hk=>qfa fun h16=>qfa fun k16=>h c xs ks ?_ h16 k16
   rw [q3c h1]
   refine qoa (.refl _) ?_
   rw [← q9g l 16]
   exact qzi (qeh hx) (qeh hk)
theorem qdz (f:Nat->Nat) (c:Nat) (xs ks:List (BitVec 8)):SV.renL f (qss c xs ks)=qss (f c) xs ks:=by
 show _::SV.renL f (app (bx xs) (bx ks))=_
 rw [qof,q9d,q9d]; rfl
theorem qjw (p:Nat->Bool) (c:Nat) (h:p c=true) (xs ks:List (BitVec 8)):SV.usesL p (qss c xs ks)=true:=by
 show (p c && SV.usesL p (app (bx xs) (bx ks)))=true
 rw [h,q3e,qfd,qfd]; rfl
def qug (chk:Option SO->Bool) (F:List (BitVec 8)->List (BitVec 8)->List (BitVec 8)):Summ:=fun args H _=>qgd args fun v=>optC (qeg v) (.stuck 627) fun p =>
 optC (ownE 126 (nth H p)) (.stuck 628) fun l=>jbl l fun c xs ks=>boolC (Nat.beq p c) (.stuck 628) (boolC (chk (nth H c)) (.ok ⟨.tuple [],[(p,qts c (F xs ks) ks)],[]⟩) (.stuck 629))
theorem qjm {c0:Cfg} (hc:CfgOK c0) (hgl:c0.glob=fun _=>none) {f:FuncId} {n:Nat} {chk:Option SO->Bool} {E1:SO} (hE:∀ (g:Nat->Nat) (e:Option SO),chk e=true->∃ e',e=some e'/\qrb g E1 e') (hU:∀ p,E1.CUses p) (hO:q6b [E1] 1=[])
  {F:List (BitVec 8)->List (BitVec 8)->List (BitVec 8)}
  (hrun:∀ x0 x1 x2 x3 x4 x5 x6 x7 x8 x9 xa xb xc xd xe xf k0 k1 k2 k3 k4 k5 k6 k7 k8 k9 ka kb kc kd ke kf:BitVec 8,
   outP [0] (qca c0 n f [.ptr ⟨0,.lit 0⟩] [qts 1 [x0,x1,x2,x3,x4,x5,x6,x7,x8,x9,xa,xb,xc,xd,xe,xf] [k0,k1,k2,k3,k4,k5,k6,k7,k8,k9,ka,kb,kc,kd,ke,kf],E1]) =
    ([],some (.tuple [],[some (qts 1 (F [x0,x1,x2,x3,x4,x5,x6,x7,x8,x9,xa,xb,xc,xd,xe,xf] [k0,k1,k2,k3,k4,k5,k6,k7,k8,k9,ka,kb,kc,kd,ke,kf]) [k0,k1,k2,k3,k4,k5,k6,k7,k8,k9,ka,kb,kc,kd,ke,kf])]))) :
  q3a c0.P f (qug chk F):=by
 intro glob O w0 β H w base args vs hH hG ha
 refine qub fun v hv=>qja fun p h1=>qja fun l hl=>j1c fun c xs ks hi h16 k16=>qna (fun _=>trivial) fun hpc=>qfa fun hck => ?_
 rw [hv,q3c h1] at ha
 rw [qga] at hl hck
 obtain ⟨x0,x1,x2,x3,x4,x5,x6,x7,x8,x9,xa,xb,xc,xd,xe,xf,rfl⟩:=q6x h16
 obtain ⟨k0,k1,k2,k3,k4,k5,k6,k7,k8,k9,ka,kb,kc,kd,ke,kf,rfl⟩:=q6x k16
 have hown:q6b [qts 1 [x0,x1,x2,x3,x4,x5,x6,x7,x8,x9,xa,xb,xc,xd,xe,xf] [k0,k1,k2,k3,k4,k5,k6,k7,k8,k9,ka,kb,kc,kd,ke,kf],E1] 0=[0]:=by show 0::q6b [E1] 1=_; rw [hO]
 refine qkg hc hgl n hH ⟨[p,c],[qts 1 [x0,x1,x2,x3,x4,x5,x6,x7,x8,x9,xa,xb,xc,xd,xe,xf] [k0,k1,k2,k3,k4,k5,k6,k7,k8,k9,ka,kb,kc,kd,ke,kf],E1],[.ptr ⟨0,.lit 0⟩]⟩
  ha (Ifc.fits (by simpa using qmb hpc) rfl ⟨⟨⟨_,qor hl,q0f (by rw [qdz]; exact hi)⟩,qjw _ _ rfl _ _⟩,⟨hE _ _ hck,hU _⟩,trivial⟩) [] (by simp) (by simp)
  (hrun x0 x1 x2 x3 x4 x5 x6 x7 x8 x9 xa xb xc xd xe xf k0 k1 k2 k3 k4 k5 k6 k7 k8 k9 ka kb kc kd ke kf) (by simp) fun H2 hH2=>⟨.refl _,rfl,?_,trivial⟩
 rw [hown]
 have hH2:H2[0]? = some (qts 1 _ _):=(List.cons.inj hH2).1
 refine ⟨⟨rfl,qbc hH2 (qjw _ _ rfl _ _) ?_⟩,trivial⟩
 show SO.own (.lst (SV.renL _ (qss 1 _ _))) true _=_
 rw [qdz]; rfl
def cfg3:Cfg:=qle (qbb [(119,jyc),(111,qi2)])
theorem qpr:CfgOK cfg3:=q8b (allC jtn (all1 jwc))
def cfg4:Cfg:=qle (qbb [(117,qrs subB),(112,qrs recB)])
theorem j2c:CfgOK cfg4:=q8b (allC qcz (all1 jig))
def mixL (k:Bool) (xs:List (BitVec 8)):List (BitVec 8) :=
 [qme k xs 0 0,qme k xs 0 1,qme k xs 0 2,qme k xs 0 3,qme k xs 1 0,qme k xs 1 1,qme k xs 1 2,qme k xs 1 3,
  qme k xs 2 0,qme k xs 2 1,qme k xs 2 2,qme k xs 2 3,qme k xs 3 0,qme k xs 3 1,qme k xs 3 2,qme k xs 3 3]
def j3c (xs:List (BitVec 8)) (a0 a1 a2 a3 a4 a5 a6 a7 a8 a9 aa ab ac ad ae af:Nat):List (BitVec 8) :=
 [qba xs a0,qba xs a1,qba xs a2,qba xs a3,qba xs a4,qba xs a5,qba xs a6,qba xs a7,qba xs a8,qba xs a9,qba xs aa,qba xs ab,qba xs ac,qba xs ad,qba xs ae,qba xs af]
def qdo (xs:List (BitVec 8)):List (BitVec 8):=j3c xs 0 5 10 15 4 9 14 3 8 13 2 7 12 1 6 11
def q8j (xs:List (BitVec 8)):List (BitVec 8):=j3c xs 0 13 10 7 4 1 14 11 8 5 2 15 12 9 6 3
def addL (xs ks:List (BitVec 8)):List (BitVec 8) :=
 [qba xs 0 ^^^ qba ks 0,qba xs 1 ^^^ qba ks 1,qba xs 2 ^^^ qba ks 2,qba xs 3 ^^^ qba ks 3,qba xs 4 ^^^ qba ks 4,qba xs 5 ^^^ qba ks 5,qba xs 6 ^^^ qba ks 6,qba xs 7 ^^^ qba ks 7,
  qba xs 8 ^^^ qba ks 8,qba xs 9 ^^^ qba ks 9,qba xs 10 ^^^ qba ks 10,qba xs 11 ^^^ qba ks 11,qba xs 12 ^^^ qba ks 12,qba xs 13 ^^^ qba ks 13,qba xs 14 ^^^ qba ks 14,qba xs 15 ^^^ qba ks 15]
def mapL (F:BitVec 8->BitVec 8) (xs:List (BitVec 8)):List (BitVec 8) :=
 [F (qba xs 0),F (qba xs 1),F (qba xs 2),F (qba xs 3),F (qba xs 4),F (qba xs 5),F (qba xs 6),F (qba xs 7),F (qba xs 8),F (qba xs 9),F (qba xs 10),F (qba xs 11),F (qba xs 12),F (qba xs 13),F (qba xs 14),F (qba xs 15)]
theorem mixOK:q3a Tryz.prog 109 (qug quc fun xs _=>mixL true xs):=qjm qpr rfl (n:=20000) (E1:=.gone) (fun _ _=>qxe) (fun _=>trivial) rfl (by intros; kernel_rfl)
theorem jwn:q3a Tryz.prog 94 (qug quc fun xs _=>mixL false xs):=qjm qpr rfl (n:=20000) (E1:=.gone) (fun _ _=>qxe) (fun _=>trivial) rfl (by intros; kernel_rfl)
theorem jxn:q3a Tryz.prog 108 (qug quc fun xs _=>qdo xs):=qjm qpr rfl (n:=20000) (E1:=.gone) (fun _ _=>qxe) (fun _=>trivial) rfl (by intros; kernel_rfl)
theorem j4c:q3a Tryz.prog 95 (qug quc fun xs _=>q8j xs):=qjm qpr rfl (n:=20000) (E1:=.gone) (fun _ _=>qxe) (fun _=>trivial) rfl (by intros; kernel_rfl)
theorem jys:q3a Tryz.prog 93 (qug quc addL):=qjm qpr rfl (n:=20000) (E1:=.gone) (fun _ _=>qxe) (fun _=>trivial) rfl (by intros; kernel_rfl)
theorem qj2:q3a Tryz.prog 107 (qug tabE fun xs _=>mapL subB xs):=qjm j2c rfl (n:=20000) (E1:=.row (.lst (lx tabI))) (fun _ _=>qbz) (fun _=>q8i _ _) rfl (by intros; kernel_rfl)
theorem j5c:q3a Tryz.prog 96 (qug tabE fun xs _=>mapL recB xs):=qjm j2c rfl (n:=20000) (E1:=.row (.lst (lx tabI))) (fun _ _=>qbz) (fun _=>q8i _ _) rfl (by intros; kernel_rfl)
end
noncomputable section
open Go.Sim
open Go.Proofs
variable {α:Type}
def cfg5:Cfg:=qle (qbb [(107,qug tabE fun xs _=>mapL subB xs),(108,qug quc fun xs _=>qdo xs),(109,qug quc fun xs _=>mixL true xs),(93,qug quc addL),
 (96,qug tabE fun xs _=>mapL recB xs),(95,qug quc fun xs _=>q8j xs),(94,qug quc fun xs _=>mixL false xs)])
theorem qk2:CfgOK cfg5:=q8b (allC qj2 (allC jxn (allC mixOK (allC jys (allC j5c (allC j4c (all1 jwn)))))))
def q0c (ks:List (BitVec 8)):List SV:=app (lx tabI) (app (bx ks) [.bool (.lit true)])
def qfg (K:Nat->BitVec 8):List (BitVec 8):=mapN K (q6a 176 0)
def rkey (K:Nat->BitVec 8) (r:Nat):List (BitVec 8):=mapN K (q6a 16 (16 * r))
def qha (X:Nat->BitVec 8) (o:Nat):List (BitVec 8):=mapN (fun i=>X (o+i)) (q6a 16 0)
def encR (K:Nat->BitVec 8) (r:Nat) (xs:List (BitVec 8)):List (BitVec 8):=addL (mixL true (qdo (mapL subB xs))) (rkey K r)
def encL (K:Nat->BitVec 8) (xs:List (BitVec 8)):List (BitVec 8):=addL (qdo (mapL subB (encR K 9 (encR K 8 (encR K 7 (encR K 6 (encR K 5 (encR K 4 (encR K 3 (encR K 2 (encR K 1 (addL xs (rkey K 0))))))))))))) (rkey K 10)
def decR (K:Nat->BitVec 8) (r:Nat) (xs:List (BitVec 8)):List (BitVec 8):=mapL recB (q8j (mixL false (addL xs (rkey K r))))
def decL (K:Nat->BitVec 8) (xs:List (BitVec 8)):List (BitVec 8):=addL (decR K 1 (decR K 2 (decR K 3 (decR K 4 (decR K 5 (decR K 6 (decR K 7 (decR K 8 (decR K 9 (mapL recB (q8j (addL xs (rkey K 10))))))))))))) (rkey K 0)
theorem jyn (K X:Nat->BitVec 8) (o n m k:Nat):outF [24] (qca cfg5 6000 89 [.ptr ⟨0,.lit 0⟩,.slice ⟨1,.sym o⟩ (.sym k) (.sym m)] [.row (.lst (q0c (qfg K))),rowF X n]) =
  some (((k:Int) != 16),([],some (.tuple [.nilSlice,.int .i64 (.lit (.ofNat 2))],[none])),[16<=k,o+16<=n],some (.tuple [.slice ⟨24,.lit 0⟩ (.lit 16) (.rest 24 0),.int .i64 (.lit (.ofNat 0))],[some (.own (.lst (bx (encL K (qha X o)))) false 5)])):=by kernel_rfl
theorem jzn (K X:Nat->BitVec 8) (o n m k:Nat):outF [24] (qca cfg5 6000 78 [.ptr ⟨0,.lit 0⟩,.slice ⟨1,.sym o⟩ (.sym k) (.sym m)] [.row (.lst (q0c (qfg K))),rowF X n]) =
  some (((k:Int) != 16),([],some (.tuple [.nilSlice,.int .i64 (.lit (.ofNat 2))],[none])),[16<=k,o+16<=n],some (.tuple [.slice ⟨24,.lit 0⟩ (.lit 16) (.rest 24 0),.int .i64 (.lit (.ofNat 0))],[some (.own (.lst (bx (decL K (qha X o)))) false 5)])):=by kernel_rfl
theorem qr5 (K:Nat->BitVec 8):outP [] (qca cfg5 6000 89 [.ptr ⟨0,.lit 0⟩,.nilSlice] [.row (.lst (q0c (qfg K)))])=([],some (.tuple [.nilSlice,.int .i64 (.lit (.ofNat 2))],[])) /\
  outP [] (qca cfg5 6000 78 [.ptr ⟨0,.lit 0⟩,.nilSlice] [.row (.lst (q0c (qfg K)))])=([],some (.tuple [.nilSlice,.int .i64 (.lit (.ofNat 2))],[])):=by
 refine ⟨?_,?_⟩ <;> kernel_rfl
theorem qs5 (K:Nat->BitVec 8) (o m k:Nat):outF [] (qca cfg5 6000 89 [.ptr ⟨0,.lit 0⟩,.slice ⟨1,.sym o⟩ (.sym k) (.sym m)] [.row (.lst (q0c (qfg K))),.gone])=some (((k:Int) != 16),([],some (.tuple [.nilSlice,.int .i64 (.lit (.ofNat 2))],[])),([16<=k],none)) /\
  outF [] (qca cfg5 6000 78 [.ptr ⟨0,.lit 0⟩,.slice ⟨1,.sym o⟩ (.sym k) (.sym m)] [.row (.lst (q0c (qfg K))),.gone])=some (((k:Int) != 16),([],some (.tuple [.nilSlice,.int .i64 (.lit (.ofNat 2))],[])),([16<=k],none)):=by
 refine ⟨?_,?_⟩ <;> kernel_rfl
end
end Go.Proofs.YtcpafideogckmaaGreatDoor.Aes
