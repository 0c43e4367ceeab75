/-
  zcS behind one another: the symbolic simulator and what it is told of the program.
-/
import Derived.Test.YtbhlngmhgplepaaDoorPh6
import Derived.WideShapes
import Derived.ChangeShapes
import Derived.ChangeSlices
import Derived.Deep.Strs
import Derived.Shelf.SlSortCmp.WholeK
import Derived.Ground.SlsfProg
set_option maxRecDepth 1000000
namespace Go.Sim
noncomputable section
def zcb (f:Nat->Nat) (E e:SO):Prop :=
 match E with
 | .obj o=>∃ o0,e=.obj o0/\o0.Imp (o.ren f)
 | .gone=>∃ l:Option Nat,l=l/\(e.placed=true\/∃ o,e=.obj o)
 | E=>Taken f E e
def SO.zc6 (p:Nat->Bool) (E:SO):Prop :=
 match E with
 | .obj o=>o.uses p=true
 | E=>E.zdg p
theorem Taken.q {f:Nat->Nat} {E e:SO} (h:Taken f E e):zcb f E e:=by
 cases E with
 | own=>exact h
 | row=>exact h
 | loop=>exact h
 | deferred=>exact h
 | gone=>exact ⟨none,rfl,.inl h⟩
 | mem=>exact h.elim
 | obj=>exact h.elim
theorem SO.zdg.q {p:Nat->Bool} {E:SO} (h:E.zdg p):E.zc6 p:=by
 cases E with
 | own=>exact h
 | row=>exact h
 | loop=>exact h
 | deferred=>exact h
 | gone=>exact h
 | mem=>exact h
 | obj=>exact h.elim
structure Ifc.zbQ (I:Ifc) (H:List SO):Prop where
 len:I.ents.length=I.names.length
 nodup:∀ (i j nm:Nat),I.names[i]? = some nm->I.names[j]? = some nm->i=j
 zeB:SV.zbi I.known I.args=true
 ent:∀ (j:Nat) (E:SO),I.ents[j]? = some E->∃ e,H[I.big j]? = some e/\zcb I.big E e
 zco:∀ (j:Nat) (E:SO),I.ents[j]? = some E->E.zc6 I.known
theorem Ifc.Fits.q {I:Ifc} {H:List SO} (h:I.Fits H):I.zbQ H:=⟨h.len,h.nodup,h.zeB,fun j E he=>let ⟨e,h1,h2⟩:=h.ent j E he; ⟨e,h1,h2.q⟩,fun j E he=>(h.zco j E he).q⟩
def zdI (f:Nat->Nat) (p:Nat->Bool) (H:List SO):List Nat->List SO->Prop
 | n::ns,E::Es=>((∃ e,H[n]? = some e/\zcb f E e)/\E.zc6 p)/\zdI f p H ns Es
 | [],[]=>True
 | _,_=>False
theorem zdI.length {f:Nat->Nat} {p:Nat->Bool} {H:List SO}:∀ {ns:List Nat} {Es:List SO},zdI f p H ns Es->Es.length=ns.length
 | [],[],_=>rfl
 | _::_,_::_,h=>by simp only [List.length_cons]; rw [zdI.length h.2]
 | [],_::_,h=>h.elim
 | _::_,[],h=>h.elim
theorem zdI.get {f:Nat->Nat} {p:Nat->Bool} {H:List SO}:∀ {ns:List Nat} {Es:List SO},zdI f p H ns Es->∀ (j:Nat) (E:SO),Es[j]? = some E->(∃ e,H[(nth ns j).getD 0]? = some e/\zcb f E e)/\E.zc6 p
 | [],[],_,j,E,h=>by simp at h
 | n::ns,E'::Es,h,0,E,hE=>by simp at hE; subst hE; exact h.1
 | n::ns,E'::Es,h,j+1,E,hE=>by
   have:=zdI.get h.2 j E (by simpa using hE)
   rw [qda] at this ⊢;simpa using this
 | [],_::_,h,_,_,_=>h.elim
 | _::_,[],h,_,_,_=>h.elim
theorem Ifc.zbV {I:Ifc} {H:List SO} (hn:I.names.Nodup) (hu:SV.zbi I.known I.args=true) (he:zdI I.big I.known H I.names I.ents):I.zbQ H :=
 ⟨he.length,fun _ _ _ hi hj=>(List.getElem?_inj (List.getElem?_eq_some_iff.1 hi).1 hn).1 (hi.trans hj.symm),hu,fun j E hE=>(he.get j E hE).1,fun j E hE=>(he.get j E hE).2⟩
def Ifc.zeH (I:Ifc) (β:Val) (b:Nat):Prop:=∃ (j:Nat) (E:SO) (l:Loc),I.ents[j]? = some E/\E.owned=true/\β (I.big j)=some l/\l.blk=b
theorem zcb.owned {f:Nat->Nat} {p:Nat->Bool} {E e:SO} (h:zcb f E e) (hu:E.zc6 p) (ho:E.owned=true):e.owned=true:=by
 cases E with
 | own=>obtain ⟨_,rfl,_⟩:=h; rfl
 | row=>cases ho
 | loop=>exact hu.elim
 | deferred=>exact hu.elim
 | gone=>cases ho
 | mem=>exact hu.elim
 | obj=>obtain ⟨_,rfl,_⟩:=h; rfl
theorem zbu.loc {P:Program} {O:Nat->Prop} {w0 w:World} {β:Val} {n:Nat} {e:SO} (h:zbu P O w0 β w n e) (hp:e.placed=true\/∃ o,e=.obj o):∃ l,β n=some l:=by
 rcases hp with hp | ⟨o,rfl⟩
 . cases e with
   | own cc ww el=>obtain ⟨l,_,_,_,_,hl,_⟩:=h; exact ⟨l,hl⟩
   | row cc=>obtain ⟨l,_,hl,_⟩:=h; exact ⟨l,hl⟩
   | loop=>cases hp
   | deferred=>cases hp
   | gone=>cases hp
   | mem=>cases hp
   | obj=>cases hp
 . obtain ⟨l,_,hl,_⟩:=h; exact ⟨l,hl⟩
theorem Ifc.zg8 {P:Program} {O:Nat->Prop} {w0 w:World} {β:Val} {H:List SO} {I:Ifc} (h:HeapRel0 P O w0 β H w) (hI:I.zbQ H):zac P (I.zeH β) w (I.val β) I.ents w:=by
 have hj:∀ (j:Nat) (E:SO),I.ents[j]? = some E->j<I.names.length:=fun j E he=>by
  rw [← hI.len]; exact (List.getElem?_eq_some_iff.1 he).1
 have hval:∀ (j:Nat) (E:SO),I.ents[j]? = some E->I.val β j=β (I.big j):=fun j E he=>by
  exact (Ifc.zaw j ((I.zaI j).2 (hj j E he))).symm
 have hne:∀ (i j:Nat) (E E':SO),I.ents[i]? = some E->I.ents[j]? = some E'->i≠j->I.big i≠I.big j:=fun i j E E' h1 h2 hij heq =>
  hij (hI.nodup i j (I.big i) (Ifc.zbA (hj i E h1)) (by rw [heq]; exact Ifc.zbA (hj j E' h2)))
 refine ⟨⟨fun n E hn => ?_,fun n m E E' l l' hn hm ho ho' hnm hl hl' => ?_,fun n E l hn ho hl => ?_,⟨rfl,rfl,rfl,Nat.le_refl _,Nat.le_refl _,fun _ _ _=>rfl⟩,fun n m hn=>(hI.zco n _ hn).elim,fun n _ m _ hn=>(hI.zco n _ hn).elim⟩,fun n hn => ?_⟩
 . obtain ⟨e,he,ht⟩:=hI.ent n E hn;have hu:=hI.zco n E hn;have hv:=hval n E hn;have h0:=h.entries _ e he;cases E with
   | own c wh el =>
     obtain ⟨c0,rfl,himp⟩:=ht;obtain ⟨l,vs,rest,lo,hi,hl,h0',hc,hh,hfz,hw,hcap⟩:=h0;exact ⟨l,vs,rest,lo,hi,hv.trans hl,h0',(zaj.ren hu Ifc.zaw).1 (himp _ _ hc),hh,hfz,hw,hcap⟩
   | row c =>
     have htake:∀ (vs:List Value) (k i:Nat) (x:Value),(vs.take k)[i]? = some x->vs[i]? = some x:=by
      intro vs k i x h;rw [List.getElem?_take] at h;split at h
      . exact h
      . cases h
     obtain ⟨c0,ht,himp⟩:=ht;rcases ht with rfl | ⟨wh,el,rfl⟩
     . obtain ⟨l,vs,hl,hc,hx⟩:=h0;obtain ⟨kk,hc⟩:=himp _ _ hc;refine ⟨l,vs.take kk,hv.trans hl,(zaj.ren hu Ifc.zaw).1 hc,fun i x hi => ?_⟩;obtain ⟨h1,h2,h3⟩:=hx i x (htake _ _ _ _ hi);refine ⟨Nat.lt_of_lt_of_le h1 h.keep.size,?_,?_⟩
       . rintro ⟨j,E',l',hj',ho',hl',hb⟩;obtain ⟨e',he',ht'⟩:=hI.ent j _ hj';rcases h.fresh _ _ l' he' (ht'.owned (hI.zco j _ hj') ho') hl' with h4 | h4
         . omega
         . exact h2 (hb▸h4)
       . rw [World.cell_of_block (h.keep.block _ h1 h2)]; exact h3
     . obtain ⟨l,vs,rest,lo,hi,hl,h0',hc,hh,hfz,hw,hcap⟩:=h0;obtain ⟨kk,hc⟩:=himp _ _ hc;refine ⟨l,vs.take kk,hv.trans hl,(zaj.ren hu Ifc.zaw).1 hc,fun i x hi0=>⟨(Array.getElem?_eq_some_iff.1 hh).1,?_,?_⟩⟩
       . rintro ⟨j,E',l',hj',ho',hl',hb⟩;obtain ⟨e',he',ht'⟩:=hI.ent j _ hj';by_cases hnj:n=j
         . subst hnj; rw [hn] at hj'; cases hj'; cases ho'
         . exact h.sep _ _ _ _ l l' he he' rfl (ht'.owned (hI.zco j _ hj') ho') (hne n j _ _ hn hj' hnj) hl hl' hb.symm
       . unfold World.cell?;rw [hh,h0',Nat.zero_add];have hi':=htake _ _ _ _ hi0;have hlt:=(List.getElem?_eq_some_iff.1 hi').1;simp only [List.getElem?_toArray,List.getElem?_append_left hlt,hi'];rfl
   | loop=>exact hu.elim
   | deferred=>exact hu.elim
   | gone=>trivial
   | mem=>trivial
   | obj o =>
     obtain ⟨o0,rfl,himp⟩:=ht;obtain ⟨l,x,hl,h0',hd,hh⟩:=h0;refine ⟨l,x,hv.trans hl,h0',?_,hh⟩;have:=himp _ _ hd;rw [zaW.zaF,zaW.zaM (β:=fun n=>β (I.big n)) (β':=I.val β) Ifc.zaw hu] at this;exact this
 . obtain ⟨e,he,ht⟩:=hI.ent n E hn;obtain ⟨e',he',ht'⟩:=hI.ent m E' hm;rw [hval n E hn] at hl;rw [hval m E' hm] at hl';exact h.sep _ _ _ _ l l' he he' (ht.owned (hI.zco n E hn) ho) (ht'.owned (hI.zco m E' hm) ho') (hne n m _ _ hn hm hnm) hl hl'
 . rw [hval n E hn] at hl;exact .inr ⟨n,E,l,hn,ho,hl,rfl⟩
 . unfold Ifc.val;rw [if_neg];rw [I.zaI,← hI.len]; omega
def jaj (p:Nat->Bool) (g:Nat->Nat) (E:Option SO) (e:SO):Prop:=Given p g E e\/∃ o,E=some (.obj o)/\o.uses p=true/\e=.obj (o.ren g)
def zbe (p:Nat->Bool) (g:Nat->Nat) (E:Option SO) (e:SO):Prop:=Given p g E e\/∃ o o',E=some (.obj o)/\o.uses p=true/\(o.ren g).Imp o'/\e=.obj o'
theorem zbe.notMem {p:Nat->Bool} {g:Nat->Nat} {E:Option SO} {e:SO} (h:zbe p g E e):∀ m,e≠.mem m:=fun m hm=>by
 rcases h with h | ⟨_,_,_,_,_,h⟩
 . exact h.notMem m hm
 . rw [h] at hm; cases hm
structure Ifc.zhU (I:Ifc) (base:Nat) (turn keep:List Nat) (r:zaH) (v:SV) (H:List SO):Prop where
 val:(v.ren (I.out base keep)).Imp r.v
 uv:v.uses (I.seen keep)=true
 zcK:r.sets.length=turn.length
 sets:∀ (i j:Nat),turn[i]? = some j->∃ e,r.sets[i]? = some (I.big j,e)/\zbe (I.seen keep) (I.out base keep) H[j]? e
 newsLen:r.news.length=keep.length
 news:∀ (i j:Nat),keep[i]? = some j->∃ e,r.news[i]? = some e/\zbe (I.seen keep) (I.out base keep) H[j]? e
theorem q50 {c:Cfg} {O:Nat->Prop} {w0 w:World} {β:Val} {H:List SO} {base:Nat} {f:FuncId} {vs:List Value} (hH:HeapRel0 c.P O w0 β H w)
  (I:Ifc) (hgl:∀ g j,c.glob g=some j->I.known j=true/\∃ l,β (I.big j)=some l/\l.blk=g/\l.off=0) (ha:SV.zal β (SV.zbJ I.big I.args)=some vs) (hI:I.zbQ H) {r:zaH} (turn keep:List Nat) (ht1:∀ (j:Nat) E,I.ents[j]? = some E->E.owned=true->j∈turn) (ht2:∀ j∈turn,∃ E,I.ents[j]? = some E/\E.owned=true) (hk:∀ j∈keep,I.names.length<=j) (hkn:keep.Nodup) (htn:turn.Nodup:=by simp)
  (hbody:∃ fn,c.P.funcs[f]? = some fn/\fn.body.isSome=true)
  (hrun:zac c.P (I.zeH β) w (I.val β) I.ents w->zaD c.glob (I.val β)->SV.zal (I.val β) I.args=some vs->Calls c.P f vs.toArray w (Came c.P (I.zeH β) w (I.val β) (I.zhU base turn keep r))):qtb c.P H β w base f vs r:=by
 intro hfree;have hH':=Ifc.zg8 hH hI;have ha':SV.zal (I.val β) I.args=some vs:=by
  rw [SV.zaJ,SV.zaY Ifc.zaw _ hI.zeB] at ha; exact ha
 have zcs:=hrun hH' (fun g j hg=>let ⟨hk,l,h1,h2⟩:=hgl g j hg; ⟨l,by rw [← Ifc.zaw j hk]; exact h1,h2⟩) ha'
 have hown:∀ j∈turn,∃ e l,H[I.big j]? = some e/\e.owned=true/\β (I.big j)=some l/\I.val β j=some l/\j<I.names.length:=by
  intro j hj;obtain ⟨E,he,ho⟩:=ht2 j hj;obtain ⟨e,he',ht⟩:=hI.ent j _ he;have hu:=hI.zco j _ he;have hjl:j<I.names.length:=by rw [← hI.len]; exact (List.getElem?_eq_some_iff.1 he).1
  have hpl:e.placed=true\/∃ o,e=.obj o:=by
   cases E with
   | own=>obtain ⟨_,rfl,_⟩:=ht; exact .inl rfl
   | row=>cases ho
   | loop=>exact hu.elim
   | deferred=>exact hu.elim
   | gone=>cases ho
   | mem=>exact hu.elim
   | obj=>obtain ⟨_,rfl,_⟩:=ht; exact .inr ⟨_,rfl⟩
  obtain ⟨l,hl⟩:=(hH.entries _ _ he').loc hpl;exact ⟨e,l,he',ht.owned hu ho,hl,by rw [← Ifc.zaw j ((I.zaI j).2 hjl)]; exact hl,hjl⟩
 have zci:∀ (v:SV) (H'':List SO),I.zhU base turn keep r v H''->∀ m e,(m,e)∈r.sets->∃ j∈turn,m=I.big j/\zbe (I.seen keep) (I.out base keep) H''[j]? e/\∃ i:Nat,turn[i]? = some j/\r.sets[i]? = some (m,e):=by
  intro v H'' hout m e hm;obtain ⟨i,hi⟩:=List.mem_iff_getElem?.1 hm;have hil:=(List.getElem?_eq_some_iff.1 hi).1;rw [hout.zcK] at hil;obtain ⟨e',h1,h2⟩:=hout.sets i _ (List.getElem?_eq_getElem hil);rw [hi] at h1;cases h1;exact ⟨_,List.getElem_mem hil,rfl,h2,i,List.getElem?_eq_getElem hil,hi⟩
 refine ⟨?_,.inl ⟨hbody,?_⟩⟩
 . intro m e hm;obtain ⟨e',w',fr,zbL,_⟩:=zcs [];obtain ⟨v,H'',x,β'',_,hout,_⟩:=zbL;obtain ⟨j,hj,rfl,hg,_⟩:=zci v H'' hout m e hm;obtain ⟨e0,l,h1,h2,_⟩:=hown j hj;exact ⟨_,h1,h2,.not hg.notMem⟩
 . intro cs;obtain ⟨e',w',fr,zbL,hst⟩:=zcs cs;refine ⟨e',w',fr,?_,hst⟩;obtain ⟨v,H'',x,β'',rfl,hout,hle,hv,hH2⟩:=zbL
   let βb:Val:=fun n=>if base<=n/\n<base+keep.length then (keep[n - base]?).bind β'' else β n
   have zcj:r.news.length=keep.length:=hout.newsLen;have hfree':∀ i,i<keep.length->β (base+i)=none:=fun i hi=>hfree i (by rw [zcj]; exact hi)
   have hβle:β.le βb:=by
    intro n l hn;show (if _ then _ else _)=_
    rw [if_neg]
    . exact hn
    . rintro ⟨h1,h2⟩;have:=hfree' (n - base) (by omega)
      rw [show base+(n - base)=n from by omega,hn] at this; cases this
   have zbb:∀ j,I.seen keep j=true->βb (I.out base keep j)=β'' j:=by
    intro j hj;unfold Ifc.seen at hj;unfold Ifc.out;cases hkn':I.known j with
    | true =>
      rw [zak];have hjl:=(I.zaI j).1 hkn';obtain ⟨E,hE⟩:∃ E,I.ents[j]? = some E:=⟨_,List.getElem?_eq_getElem (by rw [hI.len]; exact hjl)⟩
      obtain ⟨e,he,htk⟩:=hI.ent j E hE;have hu:=hI.zco j E hE;have hpl:e.placed=true\/∃ o,e=.obj o:=by
       cases E with
       | own cc ww el=>obtain ⟨c1,rfl,_⟩:=htk; exact .inl rfl
       | row cc=>obtain ⟨c1,rfl | ⟨ww,el,rfl⟩,_⟩:=htk <;> exact .inl rfl
       | loop=>exact hu.elim
       | deferred=>exact hu.elim
       | gone=>obtain ⟨_,_,h⟩:=htk; exact h
       | mem=>exact hu.elim
       | obj=>obtain ⟨_,rfl,_⟩:=htk; exact .inr ⟨_,rfl⟩
      obtain ⟨l,hl⟩:=(hH.entries _ _ he).loc hpl;rw [hβle _ _ hl];have:I.val β j=some l:=by rw [← Ifc.zaw j hkn']; exact hl
      rw [hle _ _ this]
    | false =>
      rw [hkn',zam,zch] at hj;rw [zam];have h1:=q3e hj;have h2:=(List.getElem?_eq_some_iff.1 h1).1;show (if _ then _ else _)=_
      rw [if_pos (by omega),show base+zcZ j keep - base=zcZ j keep from by omega,h1]; rfl
   have zb2:∀ (j:Nat) (e:SO),zbe (I.seen keep) (I.out base keep) H''[j]? e->I.seen keep j=true->e.owned=true/\zaz c.P βb w' (I.out base keep j) e:=by
    intro j e hg hs;rcases hg with ⟨cc,ww,el,c',he,hu,himp,rfl⟩ | ⟨o,o',he,hu,himp,rfl⟩
    . obtain ⟨l,vs,rest,lo,hi,hl,h0,hcl,hh,hfz,hw,hcap⟩:=hH2.entries j _ he;exact ⟨rfl,l,vs,rest,lo,hi,(zbb j hs).trans hl,h0,himp _ _ ((zaj.ren hu zbb).2 hcl),hh,hfz,hw,hcap⟩
    . obtain ⟨l,y,hl,h0,hd,hh⟩:=hH2.entries j _ he;exact ⟨rfl,l,y,(zbb j hs).trans hl,h0,himp _ _ (by rw [zaW.zaF,zaW.zaM (β:=fun n=>βb (I.out base keep n)) (β':=β'') zbb hu]; exact hd),hh⟩
   have zfj:∀ (j:Nat) (e:SO),zbe (I.seen keep) (I.out base keep) H''[j]? e->∃ e0 l,H''[j]? = some e0/\e0.owned=true/\β'' j=some l:=by
    intro j e hg;rcases hg with ⟨cc,ww,el,c',he,_⟩ | ⟨o,o',he,_⟩
    . obtain ⟨l,vs2,rest,lo,hi2,hl,_⟩:=hH2.entries j _ he;exact ⟨_,l,he,rfl,hl⟩
    . obtain ⟨l,y,hl,_⟩:=hH2.entries j _ he;exact ⟨_,l,he,rfl,hl⟩
   have zdq:∀ j∈turn,I.seen keep j=true/\I.out base keep j=I.big j:=by
    intro j hj;obtain ⟨_,_,_,_,_,_,hjl⟩:=hown j hj;have:=(I.zaI j).2 hjl;unfold Ifc.seen Ifc.out;rw [this]; exact ⟨rfl,rfl⟩
   have zdr:∀ j∈keep,I.seen keep j=true/\I.known j=false:=by
    intro j hj;have hnk:I.known j=false:=by
     cases hx:I.known j with
     | false=>rfl
     | true=>have:=(I.zaI j).1 hx; have:=hk j hj; omega
    unfold Ifc.seen;rw [hnk]; exact ⟨q9f hj,rfl⟩
   have zcO:∀ (i:Nat) (e:SO),r.news[i]? = some e->∃ j,keep[i]? = some j/\zbe (I.seen keep) (I.out base keep) H''[j]? e:=by
    intro i e hi;have hil:=(List.getElem?_eq_some_iff.1 hi).1;rw [zcj] at hil;obtain ⟨e',h1,h2⟩:=hout.news i _ (List.getElem?_eq_getElem hil);rw [hi] at h1; cases h1;exact ⟨_,List.getElem?_eq_getElem hil,h2⟩
   refine ⟨x,βb,rfl,?_,⟨hβle,hH2.keep.os,hH2.keep.tape,hH2.keep.output,hH2.keep.drawn,hH2.keep.size,?_,?_,?_,?_,?_,?_⟩⟩
   . refine hout.val _ _ ?_
     rw [SV.zaF,SV.zaM zbb _ hout.uv]; exact hv
   . intro n hn;rw [zcj] at hn;show (if _ then _ else _)=_
     rw [if_neg (by omega)]
   . intro b hb hno _;refine hH2.keep.block b hb ?_
     rintro ⟨j,E,l,hj,ho,hl,rfl⟩;have hjt:=ht1 j E hj ho;obtain ⟨i,hi⟩:=List.mem_iff_getElem?.1 hjt;obtain ⟨e,he,_⟩:=hout.sets i j hi;exact hno (I.big j) e l (List.mem_of_getElem? he) hl rfl
   . intro m e e' h1 h2;obtain ⟨j,hj,hm1,hg1,i1,ht1',hs1⟩:=zci v H'' hout m e h1;obtain ⟨k,hk',hm2,hg2,i2,zgX,hs2⟩:=zci v H'' hout m e' h2;obtain ⟨_,_,_,_,_,_,hjl⟩:=hown j hj;obtain ⟨_,_,_,_,_,_,hkl⟩:=hown k hk';have hjk:k=j:=hI.nodup k j (I.big k) (Ifc.zbA hkl) (by rw [← hm2,hm1]; exact Ifc.zbA hjl)
     subst hjk;have:i1=i2:=(List.getElem?_inj (List.getElem?_eq_some_iff.1 ht1').1 htn).1 (ht1'.trans zgX.symm);subst this;rw [hs1] at hs2;exact (Prod.mk.inj (Option.some.inj hs2)).2
   . intro m e hm;obtain ⟨j,hj,rfl,hg,_⟩:=zci v H'' hout m e hm;obtain ⟨hs,hb⟩:=zdq j hj;rw [← hb];exact (zb2 j e hg hs).2
   . intro i e hi;obtain ⟨j,hj,hg⟩:=zcO i e hi;have hjm:=List.mem_of_getElem? hj;obtain ⟨hs,hnk⟩:=zdr j hjm;have zds:I.out base keep j=base+i:=by
      unfold Ifc.out;rw [hnk,zam];have h1:=q3e hjm;have:zcZ j keep=i:=(List.getElem?_inj (List.getElem?_eq_some_iff.1 h1).1 hkn).1 (h1.trans hj.symm);rw [this]
     obtain ⟨ho,hor⟩:=zb2 j e hg hs;refine ⟨ho,zds▸hor,?_⟩;obtain ⟨e0,l,he,he0,hl⟩:=zfj j e hg;refine ⟨l,by rw [← zds,zbb j hs]; exact hl,.inl ?_⟩
     rcases hH2.fresh j _ l he he0 hl with h1 | ⟨k,E,lk,hk1,hko,hk2,hk3⟩
     . exact h1
     . exfalso;have hkt:=ht1 k E hk1 hko;obtain ⟨i3,hi3⟩:=List.mem_iff_getElem?.1 hkt;obtain ⟨e3,_,hg3⟩:=hout.sets i3 k hi3;obtain ⟨e4,l4,he4,ho4,hl4⟩:=zfj k e3 hg3;obtain ⟨_,l2,_,_,hb2,hv2,hkl⟩:=hown k hkt;rw [hb2] at hk2; cases hk2;rw [hle _ _ hv2] at hl4; cases hl4;refine hH2.sep k j _ _ lk l he4 he ho4 he0 ?_ (hle _ _ hv2) hl hk3;have:=hk j hjm; omega
   . intro i j l l' hij hi hj hl hl';rw [zcj] at hi hj;have hone:∀ i,i<keep.length->∀ l,βb (base+i)=some l->∃ k,keep[i]? = some k/\β'' k=some l:=by
      intro i hi l hl;have hl:(if base<=base+i/\base+i<base+keep.length then (keep[base+i - base]?).bind β'' else β (base+i))=some l:=hl
      rw [if_pos (by omega),show base+i - base=i from by omega,List.getElem?_eq_getElem hi] at hl
      exact ⟨_,List.getElem?_eq_getElem hi,hl⟩
     obtain ⟨k1,hk1,hb1⟩:=hone i hi l hl;obtain ⟨k2,hk2,hb2⟩:=hone j hj l' hl';obtain ⟨n1,_,hg1⟩:=hout.news i k1 hk1;obtain ⟨n2,_,hg2⟩:=hout.news j k2 hk2;obtain ⟨e1,_,he1,ho1,_⟩:=zfj k1 n1 hg1;obtain ⟨e2,_,he2,ho2,_⟩:=zfj k2 n2 hg2;refine hH2.sep k1 k2 _ _ l l' he1 he2 ho1 ho2 (fun h => ?_) hb1 hb2;subst h;exact hij ((List.getElem?_inj (List.getElem?_eq_some_iff.1 hk1).1 hkn).1 (hk1.trans hk2.symm))
def qpb:List SO->Nat->List Nat
 | [],_=>[]
 | E::Es,k=>if E.owned then k::qpb Es (k+1) else qpb Es (k+1)
theorem q7d:∀ (Es:List SO) (k j:Nat),j∈qpb Es k↔∃ i E,j=k+i/\Es[i]? = some E/\E.owned=true
 | [],k,j=>by simp [qpb]
 | E::Es,k,j=>by
   have ih:=q7d Es (k+1) j;have hstep:(∃ i E',j=k+1+i/\Es[i]? = some E'/\E'.owned=true)->∃ i E',j=k+i/\(E::Es)[i]? = some E'/\E'.owned=true:=fun ⟨i,E',h,h',h3⟩=>⟨i+1,E',by omega,by simpa using h',h3⟩
   unfold qpb;split
   . rename_i ho;rw [List.mem_cons,ih];constructor
     . rintro (rfl | h)
       . exact ⟨0,_,rfl,rfl,ho⟩
       . exact hstep h
     . rintro ⟨i,E',h,h',h3⟩;cases i with
       | zero=>exact .inl h
       | succ i=>exact .inr ⟨i,E',by omega,by simpa using h',h3⟩
   . rename_i ho;rw [ih];constructor
     . exact hstep
     . rintro ⟨i,E',h,h',h3⟩;cases i with
       | zero=>simp at h'; subst h'; exact absurd h3 ho
       | succ i=>exact ⟨i,E',by omega,by simpa using h',h3⟩
theorem qvf:∀ (Es:List SO) (k:Nat),(qpb Es k).Nodup
 | [],k=>by simp [qpb]
 | E::Es,k=>by
   unfold qpb;split
   . refine List.nodup_cons.2 ⟨fun h => ?_,qvf Es (k+1)⟩;obtain ⟨i,_,h,_⟩:=(q7d Es (k+1) k).1 h;omega
   . exact qvf Es (k+1)
def zcC (big:Nat->Nat) (p:Nat->Bool) (g:Nat->Nat) (H:List SO):List Nat->List (Nat × SO)->Prop
 | j::js,x::rs=>(x.1=big j/\zbe p g H[j]? x.2)/\zcC big p g H js rs
 | [],[]=>True
 | _,_=>False
def zdd (p:Nat->Bool) (g:Nat->Nat) (H:List SO):List Nat->List SO->Prop
 | j::js,e::rs=>zbe p g H[j]? e/\zdd p g H js rs
 | [],[]=>True
 | _,_=>False
theorem zcC.length {big p g H}:∀ {js:List Nat} {rs:List (Nat × SO)},zcC big p g H js rs->rs.length=js.length
 | [],[],_=>rfl
 | _::_,_::_,h=>by simp only [List.length_cons]; rw [zcC.length h.2]
 | [],_::_,h=>h.elim
 | _::_,[],h=>h.elim
theorem zcC.get {big p g H}:∀ {js:List Nat} {rs:List (Nat × SO)},zcC big p g H js rs->∀ (i j:Nat),js[i]? = some j->∃ e,rs[i]? = some (big j,e)/\zbe p g H[j]? e
 | [],[],_,i,j,h=>by simp at h
 | j'::js,x::rs,h,0,j,hE=>by simp at hE; subst hE; exact ⟨x.2,by simp [← h.1.1],h.1.2⟩
 | j'::js,x::rs,h,i+1,j,hE=>by
   obtain ⟨e,a,b⟩:=zcC.get h.2 i j (by simpa using hE)
   exact ⟨e,by simpa using a,b⟩
 | [],_::_,h,_,_,_=>h.elim
 | _::_,[],h,_,_,_=>h.elim
theorem zdd.length {p g H}:∀ {js:List Nat} {rs:List SO},zdd p g H js rs->rs.length=js.length
 | [],[],_=>rfl
 | _::_,_::_,h=>by simp only [List.length_cons]; rw [zdd.length h.2]
 | [],_::_,h=>h.elim
 | _::_,[],h=>h.elim
theorem zdd.get {p g H}:∀ {js:List Nat} {rs:List SO},zdd p g H js rs->∀ (i j:Nat),js[i]? = some j->∃ e,rs[i]? = some e/\zbe p g H[j]? e
 | [],[],_,i,j,h=>by simp at h
 | j'::js,x::rs,h,0,j,hE=>by simp at hE; subst hE; exact ⟨x,by simp,h.1⟩
 | j'::js,x::rs,h,i+1,j,hE=>by
   obtain ⟨e,a,b⟩:=zdd.get h.2 i j (by simpa using hE)
   exact ⟨e,by simpa using a,b⟩
 | [],_::_,h,_,_,_=>h.elim
 | _::_,[],h,_,_,_=>h.elim
structure Ifc.zde (I:Ifc) (base:Nat) (keep:List Nat) (r:zaH) (v:SV) (H:List SO):Prop where
 val:(v.ren (I.out base keep)).Imp r.v
 uv:v.uses (I.seen keep)=true
 sets:zcC I.big (I.seen keep) (I.out base keep) H (qpb I.ents 0) r.sets
 news:zdd (I.seen keep) (I.out base keep) H keep r.news
theorem qqc {c:Cfg} {O:Nat->Prop} {w0 w:World} {β:Val} {H:List SO} {base:Nat} {f:FuncId} {vs:List Value} (hH:HeapRel0 c.P O w0 β H w)
  (I:Ifc) (hgl:∀ g j,c.glob g=some j->I.known j=true/\∃ l,β (I.big j)=some l/\l.blk=g/\l.off=0) (ha:SV.zal β (SV.zbJ I.big I.args)=some vs) (hI:I.zbQ H) {r:zaH} (keep:List Nat) (hk:∀ j∈keep,I.names.length<=j) (hkn:keep.Nodup)
  (hr:Runs c f I.args I.ents (I.zde base keep r)):qtb c.P H β w base f vs r:=by
 refine q50 hH I hgl ha hI (qpb I.ents 0) keep (fun j E h ho=>(q7d _ _ _).2 ⟨j,E,by omega,h,ho⟩) (fun j hj => ?_) hk hkn (qvf _ _) hr.1 fun hH' hG ha'=>(hr.2 _ _ _ _ _ hH' hG ha').mono fun e w' zbL => ?_
 . obtain ⟨i,E,h,h',ho⟩:=(q7d _ _ _).1 hj;exact ⟨E,by rw [h,Nat.zero_add]; exact h',ho⟩
 . obtain ⟨v,H',x,β',he,h,hle,hv,hH2⟩:=zbL;exact ⟨v,H',x,β',he,⟨h.val,h.uv,h.sets.length,h.sets.get,h.news.length,h.news.get⟩,hle,hv,hH2⟩
theorem qcb {c:Cfg} (hc:zaC c) (n:Nat) {O:Nat->Prop} {w0 w:World} {β:Val} {H:List SO} {base:Nat} {f:FuncId} {vs:List Value} (hH:HeapRel0 c.P O w0 β H w)
  (I:Ifc) (hgl:∀ g j,c.glob g=some j->I.known j=true/\∃ l,β (I.big j)=some l/\l.blk=g/\l.off=0) (ha:SV.zal β (SV.zbJ I.big I.args)=some vs) (hI:I.zbQ H) {r:zaH} (keep:List Nat) (hk:∀ j∈keep,I.names.length<=j) (hkn:keep.Nodup)
  (hob:(qka c n f I.args I.ents).Ob (I.zde base keep r) fun _=>False):qtb c.P H β w base f vs r:=qqc hH I hgl ha hI keep hk hkn (q5d hc hob)
structure Ifc.OutO (I:Ifc) (base:Nat) (turn keep:List Nat) (r:zaH) (v:SV) (H:List SO):Prop where
 val:(v.ren (I.out base keep)).Imp r.v
 uv:v.uses (I.seen keep)=true
 zcK:r.sets.length=turn.length
 sets:∀ (i j:Nat),turn[i]? = some j->∃ e,r.sets[i]? = some (I.big j,e)/\Given (I.seen keep) (I.out base keep) H[j]? e
 newsLen:r.news.length=keep.length
 news:∀ (i j:Nat),keep[i]? = some j->∃ e,r.news[i]? = some e/\jaj (I.seen keep) (I.out base keep) H[j]? e
theorem q01 {js:List Nat} {t:Tree} {v:SV} {es:List (Option SO)} (h:∀ z:Nat->Nat->Nat,∃ ds ps,zcL js t ds z=(ps,some (v,es))/\∀ p∈ps,p) {D:SV->List SO->Prop} {S:SS->Prop} (hD:∀ H:List SO,js.map (fun j=>H[j]?)=es->D v H):t.Ob D S:=by
 have z0:Nat->Nat->Nat:=fun _ _=>0;induction t with
 | done v' H =>
   obtain ⟨ds,ps,h,_⟩:=h z0;have h':([],some (v',zas (fun j=>nth H j) js))=(ps,some (v,es)):=h;obtain ⟨h2,h3⟩:=Prod.mk.inj (Option.some.inj (Prod.mk.inj h').2);rw [← h2] at hD;refine hD H ?_
   rw [qxa] at h3;rw [← h3];exact List.map_congr_left fun j _=>(qda H j).symm
 | stop =>
   obtain ⟨ds,ps,h,_⟩:=h z0;cases (Prod.mk.inj (show ([],none)=(ps,some (v,es)) from h)).2
 | need p t ih =>
   have h':∀ z,∃ ds ps,(p::(zcL js t ds z).1,(zcL js t ds z).2)=(ps,some (v,es))/\∀ q∈ps,q:=h;refine ⟨?_,ih fun z => ?_⟩
   . obtain ⟨ds,ps,h1,h2⟩:=h' z0;exact h2 p (by rw [← (Prod.mk.inj h1).1]; exact List.mem_cons_self)
   . obtain ⟨ds,ps,h1,h2⟩:=h' z;obtain ⟨e1,e2⟩:=Prod.mk.inj h1;exact ⟨ds,(zcL js t ds z).1,by rw [← e2],fun q hq=>h2 q (by rw [← e1]; exact List.mem_cons_of_mem _ hq)⟩
 | fork b t f iht ihf =>
   have key:∀ z,∃ d r,b=d/\(zab d (zcL js t r z) (zcL js f r z)).2=some (v,es)/\∀ q∈(zab d (zcL js t r z) (zcL js f r z)).1,q:=by
    intro z;obtain ⟨ds,ps,h1,h2⟩:=h z;cases ds with
    | nil=>cases (Prod.mk.inj (show ([],none)=(ps,some (v,es)) from h1)).2
    | cons d r =>
      have h1:((b=d)::(zab d (zcL js t r z) (zcL js f r z)).1,(zab d (zcL js t r z) (zcL js f r z)).2)=(ps,some (v,es)):=h1;obtain ⟨e1,e2⟩:=Prod.mk.inj h1;exact ⟨d,r,h2 _ (by rw [← e1]; exact List.mem_cons_self),e2,fun q hq=>h2 q (by rw [← e1]; exact List.mem_cons_of_mem _ hq)⟩
   refine ⟨fun hb=>iht fun z => ?_,fun hb=>ihf fun z => ?_⟩
   . obtain ⟨d,r,hd,h1,h2⟩:=key z;rw [hb] at hd;subst hd;exact ⟨r,(zcL js t r z).1,Prod.ext rfl h1,h2⟩
   . obtain ⟨d,r,hd,h1,h2⟩:=key z;rw [hb] at hd;subst hd;exact ⟨r,(zcL js f r z).1,Prod.ext rfl h1,h2⟩
 | stuck =>
   obtain ⟨ds,ps,h,_⟩:=h z0;cases (Prod.mk.inj (show ([],none)=(ps,some (v,es)) from h)).2
 | any k ih =>
   intro y;refine ih y fun z => ?_
   let c:Nat->Nat->Nat:=fun i=>Nat.rec (motive:=fun _=>Nat->Nat) y (fun j _=>z j) i
   exact h c
theorem j1a {c:Cfg} (hc:zaC c) (n:Nat) {O:Nat->Prop} {w0 w:World} {β:Val} {H:List SO} {base:Nat} {f:FuncId} {vs:List Value} (hH:HeapRel0 c.P O w0 β H w)
  (I:Ifc) (hgl:∀ g j,c.glob g=some j->I.known j=true/\∃ l,β (I.big j)=some l/\l.blk=g/\l.off=0) (ha:SV.zal β (SV.zbJ I.big I.args)=some vs) (hI:I.Fits H) {r:zaH} (keep:List Nat) (hk:∀ j∈keep,I.names.length<=j) (hkn:keep.Nodup)
  {js:List Nat} {v:SV} {es:List (Option SO)} (h:∀ z:Nat->Nat->Nat,∃ ds ps,zcL js (qka c n f I.args I.ents) ds z=(ps,some (v,es))/\∀ p∈ps,p) (hD:∀ H2:List SO,js.map (fun j=>H2[j]?)=es->I.Ends base keep r v H2):qtb c.P H β w base f vs r :=
 qmy hc n hH I hgl ha hI keep hk hkn (q01 h hD)
end
noncomputable section
theorem j2a {js:List Nat} {M:Cut} {names:List Nat} {t:Tree} {K:(SV × List (Option SO)) ⊕ Seen->Prop} (h:∀ z:Nat->Nat->Nat,∃ ds ps r,zaq js M names t ds z=(ps,some r)/\(∀ p∈ps,p)/\K r) {D:SV->List SO->Prop} {S:SS->Prop}
  (hD:∀ v es,K (.inl (v,es))->∀ H:List SO,js.map (fun j=>H[j]?)=es->D v H) (hS:∀ V,K (.inr V)->∀ s,q3j M names s=V->S s):t.Ob D S:=by
 have z0:Nat->Nat->Nat:=fun _ _=>0;induction t with
 | done v' H =>
   obtain ⟨ds,ps,r,h,_,hk⟩:=h z0;have h':([],some (.inl (v',zas (fun j=>nth H j) js)))=(ps,some r):=h;have h1:=Option.some.inj (Prod.mk.inj h').2;rw [← h1] at hk;refine hD v' _ hk H ?_
   rw [qxa];exact List.map_congr_left fun j _=>(qda H j).symm
 | stop s =>
   obtain ⟨ds,ps,r,h,_,hk⟩:=h z0;have h':([],some (.inr (q3j M names s)))=(ps,some r):=h;have h1:=Option.some.inj (Prod.mk.inj h').2;rw [← h1] at hk;exact hS _ hk s rfl
 | need p t ih =>
   have h':∀ z,∃ ds ps r,(p::(zaq js M names t ds z).1,(zaq js M names t ds z).2)=(ps,some r)/\(∀ p∈ps,p)/\K r:=h;refine ⟨?_,ih fun z => ?_⟩
   . obtain ⟨ds,ps,r,h1,h2,_⟩:=h' z0;exact h2 p (by rw [← (Prod.mk.inj h1).1]; exact List.mem_cons_self)
   . obtain ⟨ds,ps,r,h1,h2,h3⟩:=h' z;exact ⟨ds,_,r,Prod.ext rfl (Prod.mk.inj h1).2,fun q hq=>h2 q (by rw [← (Prod.mk.inj h1).1]; exact List.mem_cons_of_mem _ hq),h3⟩
 | fork b t f iht ihf =>
   have key:∀ z,∃ rs ps r,((zab b (zaq js M names t rs z) (zaq js M names f rs z))=(ps,some r))/\(∀ p∈ps,p)/\K r:=by
    intro z;obtain ⟨ds,ps,r,h1,h2,h3⟩:=h z;cases ds with
    | nil=>cases (Prod.mk.inj (show ([],none)=(ps,some r) from h1)).2
    | cons d rs =>
      have h1:((b=d)::(zab d (zaq js M names t rs z) (zaq js M names f rs z)).1,(zab d (zaq js M names t rs z) (zaq js M names f rs z)).2)=(ps,some r):=h1;have hb:b=d:=h2 _ (by rw [← (Prod.mk.inj h1).1]; exact List.mem_cons_self)
      exact ⟨rs,_,r,Prod.ext rfl (by rw [hb]; exact (Prod.mk.inj h1).2),fun q hq=>h2 q (by rw [← (Prod.mk.inj h1).1]; refine List.mem_cons_of_mem _ ?_; rw [hb] at hq; exact hq),h3⟩
   refine ⟨fun ht=>iht fun z => ?_,fun hf=>ihf fun z => ?_⟩
   . obtain ⟨rs,ps,r,h1,h2⟩:=key z;rw [ht] at h1;exact ⟨rs,ps,r,h1,h2⟩
   . obtain ⟨rs,ps,r,h1,h2⟩:=key z;rw [hf] at h1;exact ⟨rs,ps,r,h1,h2⟩
 | stuck =>
   obtain ⟨ds,ps,r,h1,_⟩:=h z0;cases (Prod.mk.inj (show ([],none)=(ps,some r) from h1)).2
 | any k ih =>
   intro y
   let c:(Nat->Nat->Nat)->Nat->Nat->Nat:=fun z i=>Nat.rec (motive:=fun _=>Nat->Nat) y (fun j _=>z j) i
   exact ih y fun z=>h (c z)
def zbt {A:Type} (k0:Nat) (C:A->Cut) (Q:A->Prop) (M:Cut) (names:List Nat) (V:Seen):Prop :=
 ∃ (a:A) (N:Nat) (ms:List (Nat × Nat × SV)) (es:List (Nat × HP)),Q a/\V=qva ms es (qja names N (C a))/\zab (qua k0 names M (C a)) (zaO qpa (C a).heap) false=true /\
   (∀ m∈ms,∀ (p:SP) (u:Option SV),(C a).frames[m.1]? = some p->p.tmps[m.2.1]? = some u->∃ w,u=some w/\m.2.2.Imp (w.ren (q4b names N)))/\(∀ e∈es,∀ E0,(C a).heap[e.1]? = some E0->zew (q4b names N) (some e.2) E0)
theorem zbt.of {A:Type} {k0:Nat} {C:A->Cut} {Q:A->Prop} {M:Cut} {names:List Nat} {N:Nat} (a:A) (hq:Q a) (hn:zab (qua k0 names M (C a)) (zaO qpa (C a).heap) false=true):zbt k0 C Q M names (qja names N (C a)) :=
 ⟨a,N,[],[],hq,rfl,hn,by simp,by simp⟩
theorem qyf {A:Type} {c:Cfg} {k0:Nat} {C:A->Cut} {Q:A->Prop} {D:SV->List SO->Prop} {s:SS} (st:Option (Nat × Nat)) (n:Nat) {M:Cut} {js names:List Nat} {K:SV × List (Option SO)->Prop}
  (h:∀ z,∃ ds ps r,zaq js M names (za9 (c.at st) n s) ds z=(ps,some r)/\(∀ p∈ps,p)/\Sum.rec (motive:=fun _=>Prop) K (zbt k0 C Q M names) r)
  (hD:∀ v es,K (v,es)->∀ H:List SO,js.map (fun j=>H[j]?)=es->D v H):qlb c k0 C Q D s :=
 ⟨st,n,j2a h (fun v es hk H hH=>hD v es hk H hH) fun V hk s hv=>by
  obtain ⟨a,N,ms,es,hq,e,hn,hT,hE⟩:=(hk:zbt k0 C Q M names V);exact qiq a hq names (qz1 (N:=N) ms es (by rw [hv]; exact e) hn hT hE)⟩
end
end Go.Sim
namespace Go.Proofs.YtbhlngmhgplepaaDoor.Aes
noncomputable section
open Go.Sim
open Go.Proofs
variable {α:Type}
def zb5 (a b:ByteArray):Int:=if Op.bytesLess a.data.toList b.data.toList then -1 else if Op.bytesLess a.data.toList b.data.toList || decide (a=b) then 0 else 1
def cmpL (a b:ByteArray):Int:=zab (Op.bytesLess a.data.toList b.data.toList) (-1) (zab (a.data.toList == b.data.toList) 0 1)
theorem cmpL_eq (a b:ByteArray):cmpL a b=zb5 a b:=by
 unfold cmpL zb5;have h:(a.data.toList == b.data.toList)=decide (a=b):=by rw [← q9i,q0e]
 rw [h];cases Op.bytesLess a.data.toList b.data.toList with
 | true=>rfl
 | false=>cases h2:decide (a=b) <;> simp [zab]
def zd2 (s t:za8):SI:=za8.rec (motive:=fun _=>SI) (fun a=>za8.rec (motive:=fun _=>SI) (fun b=>.lit (cmpL a b)) (fun b=>.sym (zb5 a b)) (fun l=>.sym (zb5 a (qfc l))) t) (fun a=>.sym (zb5 a t.den)) (fun l=>.sym (zb5 (qfc l) t.den)) s
theorem qjj (s t:za8):(zd2 s t).den=zb5 s.den t.den:=by
 cases s <;> cases t <;> first | rfl | exact cmpL_eq _ _
def zf6:za3:=fun args _ _=>quf args fun s t=>zah (zb0 s) (.stuck 681) fun s=>zah (zb0 t) (.stuck 681) fun t=>.ok ⟨SV.int .i64 (zd2 s t),[],[]⟩
theorem j3a (a b:ByteArray):za4 [] (qka zb6 400 63 [.str (.sym a),.str (.sym b)] []) [false,false,true]=([(!decide (a=a))=false,(!decide (b=b))=false,Op.bytesLess a.data.toList b.data.toList=true],some (.int .i64 (.lit (-1)),[])):=by kernel_rfl
theorem j4a (a b:ByteArray):za4 [] (qka zb6 400 63 [.str (.sym a),.str (.sym b)] []) [false,false,false,true]=([(!decide (a=a))=false,(!decide (b=b))=false,Op.bytesLess a.data.toList b.data.toList=false,(!(Op.bytesLess a.data.toList b.data.toList || decide (a=b)))=true],some (.int .i64 (.lit 1),[])):=by kernel_rfl
theorem j5a (a b:ByteArray):za4 [] (qka zb6 400 63 [.str (.sym a),.str (.sym b)] []) [false,false,false,false]=([(!decide (a=a))=false,(!decide (b=b))=false,Op.bytesLess a.data.toList b.data.toList=false,(!(Op.bytesLess a.data.toList b.data.toList || decide (a=b)))=false],some (.int .i64 (.lit 0),[])):=by kernel_rfl
theorem q7b {s t:za8} (h:s.den=t.den):(SV.str s).Imp (.str t):=fun _ _ hx=>by
 simp only [SV.den] at hx ⊢;rw [← h]; exact hx
theorem q6a {k:IntKind} {a b:SI} (h:a.den=b.den):(SV.int k a).Imp (.int k b):=fun _ _ hx=>by
 simp only [SV.den] at hx ⊢;rw [← h]; exact hx
theorem zck:qeb Tryd.prog 63 zf6:=by
 intro glob O w0 β H w base args vs hH hG ha;refine qed fun v1 v2 hv=>qfa fun s hs=>qfa fun t ht => ?_
 rw [hv,q8a hs,q8a ht] at ha;have ha:=qoa (q7b (t:=.sym s.den) rfl) (qoa (q7b (t:=.sym t.den) rfl) qdc) _ _ ha;have hE:∀ (n:Int),zb5 s.den t.den=n->∀ H2:List SO,(⟨[],[],[.str (.sym s.den),.str (.sym t.den)]⟩:Ifc).Ends base [] ⟨SV.int .i64 (zd2 s t),[],[]⟩ (SV.int .i64 (.lit n)) H2:=fun n hn H2=>⟨q6a (by rw [qjj,hn]; rfl),rfl,trivial,trivial⟩
 have h1:∀ a:ByteArray,(!decide (a=a))=false:=fun a=>by simp
 cases hb:Op.bytesLess s.den.data.toList t.den.data.toList with
 | true=>exact qud q2h rfl 400 hH ⟨[],[],[.str (.sym s.den),.str (.sym t.den)]⟩ ha (qkd rfl) [] (by simp) (by simp) (j3a s.den t.den) (zaa (h1 _) (zaa (h1 _) (zaa hb qaa))) fun H2 _=>hE _ (by unfold zb5; rw [hb]; rfl) H2
 | false =>
   cases he:decide (s.den=t.den) with
   | true=>exact qud q2h rfl 400 hH ⟨[],[],[.str (.sym s.den),.str (.sym t.den)]⟩ ha (qkd rfl) [] (by simp) (by simp) (j5a s.den t.den) (zaa (h1 _) (zaa (h1 _) (zaa hb (zaa (by rw [hb,he]; rfl) qaa)))) fun H2 _=>hE _ (by unfold zb5; rw [hb,he]; rfl) H2
   | false=>exact qud q2h rfl 400 hH ⟨[],[],[.str (.sym s.den),.str (.sym t.den)]⟩ ha (qkd rfl) [] (by simp) (by simp) (j4a s.den t.den) (zaa (h1 _) (zaa (h1 _) (zaa hb (zaa (by rw [hb,he]; rfl) qaa)))) fun H2 _=>hE _ (by unfold zb5; rw [hb,he]; rfl) H2
def qew:Cfg:=qhc (qkc [(109,zes),(63,zf6)])
theorem zcq:zaC qew:=qpc (zcu qaw (all1 zck))
end
noncomputable section
open Go.Sim
open Go.Proofs
variable {α:Type}
def bAs (l:List UInt8):ByteArray:=⟨l.toArray⟩
def qd5 (v:SV) (l:List UInt8):Bool:=match v with | .str (.lit s)=>s.data.toList == l | _=>false
theorem j0l {v:SV} {l:List UInt8} (h:qd5 v l=true):v=.str (.lit (bAs l)):=by
 unfold qd5 at h;split at h
 . rename_i s;have h:=eq_of_beq h;obtain ⟨⟨x⟩⟩:=s;have h:x=l:=h;rw [h]; rfl
 . cases h
def litTab (T:List (List UInt8 × Bool)) (v:SV):Option Bool:=List.rec (motive:=fun _=>Option Bool) none (fun a _ ih=>zab (qd5 v a.1) (some a.2) ih) T
end
end Go.Proofs.YtbhlngmhgplepaaDoor.Aes
namespace Go.Sim
noncomputable section
variable {α:Type}
def SC.nms:SC->List Nat
 | .rest nm _=>[nm]
 | _=>[]
def SFn.nms:SFn->List Nat
 | .yield nm=>[nm]
 | _=>[]
mutual
def SV.nms:SV->List Nat
 | .ptr a=>[a.nm]
 | .slice a _ c=>a.nm::c.nms
 | .tail a _ _ c=>a.nm::c.nms
 | .map nm=>[nm]
 | .func g xs ys=>app g.nms (app (SV.zfT xs) (SV.zfT ys))
 | .iface _ v=>v.nms
 | .agg l=>SV.zfT l
 | .tuple l=>SV.zfT l
 | _=>[]
def SV.zfT:List SV->List Nat
 | []=>[]
 | v::l=>app v.nms (SV.zfT l)
end
def nmsC (c:Cells):List Nat:=Cells.rec (motive:=fun _=>List Nat) (fun l=>SV.zfT l) (fun _ _=>[]) (fun _ _=>[]) c
def zji (es:List (SV × SV × Nat)):List Nat:=List.rec (motive:=fun _=>List Nat) [] (fun e _ ih=>app e.1.nms (app e.2.1.nms ih)) es
def nmsO (o:zaW):List Nat:=zaW.rec (motive:=fun _=>List Nat) (fun es _=>zji es) (fun m _ _ _=>zah m [] fun n=>[n]) (fun _ _=>[]) (fun _ _ _ _=>[]) o
def nmsE (e:SO):List Nat:=SO.rec (motive:=fun _=>List Nat) (fun c _ _=>nmsC c) (fun c=>nmsC c) (fun _ _ _ _ _ _ _ _=>[]) (fun _=>[]) [] (fun o=>nmsO o) (fun _=>[]) e
def qfs (H:List SO) (n:Nat):List Nat->List Nat->List Nat :=
 Nat.rec (motive:=fun _=>List Nat->List Nat->List Nat) (fun _ seen=>seen)
  (fun _ ih todo seen=>List.rec (motive:=fun _=>List Nat) seen (fun a r _=>zab (zbD a seen) (ih r seen) (ih (app (zah (nth H a) [] nmsE) r) (a::seen))) todo) n
def zeq (f:Nat->Nat) (e:SO):SO:=SO.rec (motive:=fun _=>SO) (fun c w el=>.own (c.ren f) w el) (fun c=>.row (c.ren f)) (fun _ _ _ _ _ _ _ _=>.gone) (fun _=>.gone) .gone (fun o=>.obj (o.ren f)) (fun m=>.mem m) e
def zgH (ro:Bool) (e:SO):SO:=zab ro (SO.rec (motive:=fun _=>SO) (fun c _ _=>.row c) (fun c=>.row c) (fun _ _ _ _ _ _ _ _=>.gone) (fun _=>.gone) .gone (fun o=>.obj o) (fun m=>.mem m) e) e
def zhb (t:Tree):Option (SV × List SO) :=
 Tree.rec (motive:=fun _=>Option (SV × List SO)) (fun v H=>some (v,H)) (fun _=>none) (fun _ _ _=>none) (fun b _ _ iht ihf=>zab b iht ihf) (fun _=>none) (fun _ _=>none) t
theorem jff {v:SV} {H:List SO}:∀ {t:Tree},zhb t=some (v,H)->t.Ob (fun v' H'=>v'=v/\H'=H) fun _=>False:=by
 intro t;induction t with
 | done v' H'=>intro h; cases h; exact ⟨rfl,rfl⟩
 | stop=>intro h; cases h
 | need=>intro h; cases h
 | fork b t f iht ihf =>
   intro h;have h:zab b (zhb t) (zhb f)=some (v,H):=h;exact ⟨fun hb=>iht (by rw [hb] at h; exact h),fun hb=>ihf (by rw [hb] at h; exact h)⟩
 | stuck=>intro h; cases h
 | any=>intro h; cases h
def qkq (n:Nat) (l:List Nat):List Nat:=qxg (fun j=>Nat.ble n j) l
def q8g (p:Nat->Bool) (H:List SO) (js:List Nat):Bool:=zaO (fun m=>zah (nth H m) false fun e=>e.keeps p) js
def qyc (ro:Bool) (M:List Nat) (args:List SV) (H:List SO):Ifc:=⟨M,zas (fun m=>zgH ro (zeq (fun n=>zcZ n M) (atE (nth H m)))) M,SV.zbJ (fun n=>zcZ n M) args⟩
def zja (I:Ifc) (base:Nat) (turn keep:List Nat) (v:SV) (H2:List SO):R zaH :=
 zab (zab (qhj keep) (zab (zaO (fun j=>Nat.ble (zay I.names) j) keep) (zab (v.uses (I.seen keep)) (zab (q8g (I.seen keep) H2 turn) (zab (q8g (I.seen keep) H2 keep) (zaO (fun m=>zah (nth H2 m) false SO.owned) (app turn keep)) false) false) false) false) false)
  (.ok ⟨v.ren (I.out base keep),zas (fun j=>(I.big j,zeq (I.out base keep) (atE (nth H2 j)))) turn,zas (fun j=>zeq (I.out base keep) (atE (nth H2 j))) keep⟩) (.stuck 7782)
def runI (c:Cfg) (n:Nat) (f:FuncId) (I:Ifc) (base:Nat) (turn:List Nat):R zaH :=
 zah (zhb (qka c n f I.args I.ents)) (.stuck 7781) fun r=>zja I base turn (qkq (zay I.names) (qfs r.2 400 (app r.1.nms turn) [])) r.1 r.2
def runM (ro:Bool) (c:Cfg) (n:Nat) (f:FuncId) (args:List SV) (H:List SO) (base:Nat) (M:List Nat):R zaH :=
 zab (zab (qhj M) (zab (q8g (fun n=>zbD n M) H M) (zab (SV.zbi (fun n=>zbD n M) args) (zab (SV.zbi (qyc ro M args H).known (qyc ro M args H).args) (zaO (fun e=>e.keeps (qyc ro M args H).known) (qyc ro M args H).ents) false) false) false) false)
  (runI c n f (qyc ro M args H) base (qpb (qyc ro M args H).ents 0)) (.stuck 7783)
def qgs (ro:Bool) (fl:Nat) (c:Cfg) (n:Nat) (f:FuncId):za3:=fun args H base=>List.rec (motive:=fun _=>R zaH) (.stuck fl) (fun _ _ _=>runM ro c n f args H base (qfs H 400 (SV.zfT args) [])) args
theorem SO.zdR {p:Nat->Bool} {e:SO} (h:e.keeps p=true):e.zc6 p:=by
 cases e with
 | own c w el=>cases c with
   | lst l=>exact h
   | fn=>cases h
   | raw=>trivial
 | row c=>cases c with
   | lst l=>exact h
   | fn=>cases h
   | raw=>trivial
 | loop=>cases h
 | deferred=>cases h
 | gone=>cases h
 | mem=>cases h
 | obj o=>exact h
theorem qzp {p:Nat->Bool} {q g:Nat->Nat} (hq:∀ n,p n=true->g (q n)=n) {c:Cells} (h:(match c with | .lst l=>SV.zbi p l | .fn _ _=>false | .raw _ _=>true)=true):c.Imp ((c.ren q).ren g):=by
 intro β vs hr;cases c with
 | lst l =>
   show SV.zal β (SV.zbJ g (SV.zbJ q l))=some vs;rw [SV.zaJ,SV.zaJ];rw [← SV.zaY (p:=p) (β:=β) (fun n hn=>by show β n=β (g (q n)); rw [hq n hn]) l h]
   exact hr
 | fn=>cases h
 | raw=>exact hr
theorem q60 {p:Nat->Bool} {q g:Nat->Nat} (hq:∀ n,p n=true->g (q n)=n) {e:SO} (h:e.keeps p=true):zcb g (zeq q e) e:=by
 cases e with
 | own c w el=>exact ⟨c,rfl,qzp hq (by cases c <;> exact h)⟩
 | row c=>exact ⟨c,.inl rfl,(qzp hq (by cases c <;> exact h)).front⟩
 | loop=>cases h
 | deferred=>cases h
 | gone=>cases h
 | mem=>cases h
 | obj o =>
   refine ⟨o,rfl,fun β x hx => ?_⟩;rw [zaW.zaF,zaW.zaF];rw [← zaW.zaM (p:=p) (β:=β) (fun n hn=>by show β n=β (g (q n)); rw [hq n hn]) h]
   exact hx
theorem j6a (ro:Bool) {g:Nat->Nat} {E e:SO} (h:zcb g E e):zcb g (zgH ro E) e:=by
 cases ro with
 | false=>exact h
 | true =>
   cases E with
   | own c w el=>obtain ⟨c0,rfl,h⟩:=h; exact ⟨c0,.inr ⟨w,el,rfl⟩,h.front⟩
   | row c=>exact h
   | loop=>exact h.elim
   | deferred=>exact h.elim
   | gone=>exact h
   | mem=>exact h
   | obj o=>exact h
theorem qsy {p:Nat->Bool} {g:Nat->Nat} {e:SO} (h:e.keeps p=true) (ho:e.owned=true):zbe p g (some e) (zeq g e):=by
 cases e with
 | own c w el =>
   refine .inl ⟨c,w,el,c.ren g,rfl,?_,Cells.Imp.refl _,rfl⟩;cases c with
   | lst l=>exact h
   | fn=>cases h
   | raw=>trivial
 | row=>cases ho
 | loop=>cases h
 | deferred=>cases h
 | gone=>cases h
 | mem=>cases h
 | obj o=>exact .inr ⟨o,o.ren g,rfl,h,fun _ _ x=>x,rfl⟩
theorem qgk {p:Nat->Bool} {H:List SO} {js:List Nat} (h:q8g p H js=true) {j:Nat} (hj:j∈js):∃ e,H[j]? = some e/\e.keeps p=true:=by
 have:=qwf h j hj;rw [qda] at this;cases hx:H[j]? with
 | none=>rw [hx] at this; cases this
 | some e=>rw [hx] at this; exact ⟨e,rfl,this⟩
theorem qty {big:Nat->Nat} {p:Nat->Bool} {g:Nat->Nat} {H:List SO}:∀ {js:List Nat},(∀ j∈js,∃ e,H[j]? = some e/\e.keeps p=true/\e.owned=true)->zcC big p g H js (zas (fun j=>(big j,zeq g (atE (nth H j)))) js)
 | [],_=>trivial
 | j::js,h=>by
   obtain ⟨e,he,hk,ho⟩:=h j List.mem_cons_self;refine ⟨⟨rfl,?_⟩,qty fun k hk=>h k (List.mem_cons_of_mem _ hk)⟩;show zbe p g H[j]? (zeq g (atE (nth H j)));rw [qda,he];exact qsy hk ho
theorem quy {p:Nat->Bool} {g:Nat->Nat} {H:List SO}:∀ {js:List Nat},(∀ j∈js,∃ e,H[j]? = some e/\e.keeps p=true/\e.owned=true)->zdd p g H js (zas (fun j=>zeq g (atE (nth H j))) js)
 | [],_=>trivial
 | j::js,h=>by
   obtain ⟨e,he,hk,ho⟩:=h j List.mem_cons_self;refine ⟨?_,quy fun k hk=>h k (List.mem_cons_of_mem _ hk)⟩;show zbe p g H[j]? (zeq g (atE (nth H j)));rw [qda,he];exact qsy hk ho
theorem qnd {a b:Bool} (h:zab a b false=true):a=true/\b=true:=by cases a <;> first | exact ⟨rfl,h⟩ | cases h
theorem j7a {ro:Bool} {c:Cfg} (hc:zaC c) (hg:∀ g,c.glob g=none) {n:Nat} {f:FuncId} {O:Nat->Prop} {w0 w:World} {β:Val} {H:List SO} {base:Nat} {args:List SV} {vs:List Value} (M:List Nat)
  (hH:HeapRel0 c.P O w0 β H w) (ha:SV.zal β args=some vs):(runM ro c n f args H base M).Sat (qtb c.P H β w base f vs):=by
 unfold runM;cases hok:zab (qhj M) (zab (q8g (fun n=>zbD n M) H M) (zab (SV.zbi (fun n=>zbD n M) args) (zab (SV.zbi (qyc ro M args H).known (qyc ro M args H).args) (zaO (fun e=>e.keeps (qyc ro M args H).known) (qyc ro M args H).ents) false) false) false) false with
 | false=>trivial
 | true =>
   obtain ⟨h1,hok⟩:=qnd hok;obtain ⟨h2,hok⟩:=qnd hok;obtain ⟨h3,hok⟩:=qnd hok;obtain ⟨h4,h5⟩:=qnd hok;rw [zak];have hM:M.Nodup:=qph M h1;have zaE:∀ n,zbD n M=true->(qyc ro M args H).big (zcZ n M)=n:=by
    intro n hn;show (nth M (zcZ n M)).getD 0=n;rw [qda,q3e (zch.1 hn)];rfl
   have hget:∀ (j:Nat) (E:SO),(qyc ro M args H).ents[j]? = some E->∃ m e,M[j]? = some m/\H[m]? = some e/\E=zgH ro (zeq (fun n=>zcZ n M) e)/\e.keeps (fun n=>zbD n M)=true:=by
    intro j E hE;have hE:(zas (fun m=>zgH ro (zeq (fun n=>zcZ n M) (atE (nth H m)))) M)[j]? = some E:=hE;rw [qxa,List.getElem?_map] at hE;cases hm:M[j]? with
    | none=>rw [hm] at hE; cases hE
    | some m =>
      rw [hm] at hE;obtain ⟨e,he,hk⟩:=qgk h2 (List.mem_of_getElem? hm);have hE:zgH ro (zeq (fun n=>zcZ n M) (atE (nth H m)))=E:=Option.some.inj hE;rw [qda,he] at hE;exact ⟨m,e,rfl,he,hE.symm,hk⟩
   have hI:(qyc ro M args H).zbQ H:=by
    refine ⟨?_,fun i j nm hi hj => ?_,h4,fun j E hE => ?_,fun j E hE => ?_⟩
    . show (zas _ M).length=M.length;rw [qxa,List.length_map]
    . exact (List.getElem?_inj (List.getElem?_eq_some_iff.1 hi).1 hM).1 (hi.trans hj.symm)
    . obtain ⟨m,e,hm,he,rfl,hk⟩:=hget j E hE;have hb:(qyc ro M args H).big j=m:=by
       show (nth M j).getD 0=m;rw [qda,hm]; rfl
      exact ⟨e,by rw [hb]; exact he,j6a ro (q60 zaE hk)⟩
    . exact SO.zdR (qwf h5 E (List.mem_of_getElem? hE))
   have ha':SV.zal β (SV.zbJ (qyc ro M args H).big (qyc ro M args H).args)=some vs:=by
    show SV.zal β (SV.zbJ (qyc ro M args H).big (SV.zbJ (fun n=>zcZ n M) args))=some vs;rw [SV.zaJ,SV.zaJ];rw [← SV.zaY (p:=fun n=>zbD n M) (β:=β) (fun n hn=>by show β n=β ((qyc ro M args H).big (zcZ n M)); rw [zaE n hn]) args h3]
    exact ha
   generalize qyc ro M args H=I at hI ha' ⊢;unfold runI;cases hd:zhb (qka c n f I.args I.ents) with
   | none=>trivial
   | some r =>
     obtain ⟨v,H2⟩:=r;rw [zao];show (zja I base (qpb I.ents 0) (qkq (zay I.names) (qfs H2 400 (app v.nms (qpb I.ents 0)) [])) v H2).Sat _;generalize qkq (zay I.names) (qfs H2 400 (app v.nms (qpb I.ents 0)) [])=keep;unfold zja;cases hk:zab (qhj keep) (zab (zaO (fun j=>Nat.ble (zay I.names) j) keep) (zab (v.uses (I.seen keep)) (zab (q8g (I.seen keep) H2 (qpb I.ents 0)) (zab (q8g (I.seen keep) H2 keep) (zaO (fun m=>zah (nth H2 m) false SO.owned) (app (qpb I.ents 0) keep)) false) false) false) false) false with
     | false=>trivial
     | true =>
       obtain ⟨k1,hk⟩:=qnd hk;obtain ⟨k2,hk⟩:=qnd hk;obtain ⟨k3,hk⟩:=qnd hk;obtain ⟨k4,hk⟩:=qnd hk;obtain ⟨k5,k6⟩:=qnd hk;rw [zak];have hown:∀ j∈qpb I.ents 0++keep,∀ e,H2[j]? = some e->e.owned=true:=by
        intro j hj e he;have:=qwf k6 j (by rw [q7a]; exact hj)
        rw [qda,he] at this;exact this
       show qtb c.P H β w base f vs _;refine qcb hc n hH I (fun g j h=>by rw [hg g] at h; cases h) ha' hI keep (fun j hj => ?_) (qph keep k1) ((jff hd).mono fun v' H' h => ?_)
       . have:=qwf k2 j hj;rw [← qha];exact Nat.le_of_ble_eq_true this
       . obtain ⟨rfl,rfl⟩:=h;refine ⟨SV.Imp.refl _,k3,qty fun j hj => ?_,quy fun j hj => ?_⟩
         . obtain ⟨e,he,hk⟩:=qgk k4 hj;exact ⟨e,he,hk,hown j (List.mem_append_left _ hj) e he⟩
         . obtain ⟨e,he,hk⟩:=qgk k5 hj;exact ⟨e,he,hk,hown j (List.mem_append_right _ hj) e he⟩
theorem qh8 (ro:Bool) (fl:Nat) {c:Cfg} (hc:zaC c) (hg:∀ g,c.glob g=none) (n:Nat) (f:FuncId):qeb c.P f (qgs ro fl c n f):=by
 intro glob O w0 β H w base args vs hH hG ha;unfold qgs;cases args with
 | nil=>trivial
 | cons a r=>exact j7a hc hg _ hH ha
end
noncomputable section
variable {α:Type}
theorem qbg {base:Nat} {I:Ifc} {t:Bool} {v:SV} {H:List SO} (ho:qpb I.ents 0=[]) (h:∃ b,v=.bool b/\b.den=t):I.zde base [] ⟨.bool (.sym t),[],[]⟩ v H:=by
 obtain ⟨b,rfl,rfl⟩:=h;refine ⟨fun β x hx=>hx,rfl,?_,trivial⟩;rw [ho];trivial
def zh9 (v:SV):ByteArray:=SV.rec (motive_1:=fun _=>ByteArray) (motive_2:=fun _=>Unit) (fun _ _=>.empty) (fun _=>.empty) (fun s=>s.den) (fun _=>.empty) .empty (fun _ _ _=>.empty) .empty (fun _=>.empty) .empty (fun _ _ _ _ _=>.empty) .empty (fun _ _ _=>.empty) .empty (fun _ _=>.empty) (fun _ _=>.empty) (fun _=>.empty) (fun _ _ _ _=>.empty) () (fun _ _ _ _=>()) v
def qe5 (S:Nat->ByteArray) (n:Nat):SO:=.row (.fn (fun i=>.str (.sym (S i))) n)
end
end Go.Sim
namespace Go.Proofs.YtbhlngmhgplepaaDoor.Aes
noncomputable section
open Go.Sim Go.WideShapes Go.ChangeShapes
section
variable {H:Type} {enc:TypeId × Value->H} {P:Program} {w:World} {r:Reach} {b0 base:Nat} {held:Bool}
theorem qvy {ti:TypeId} {n:Nat} {c:Value} {y:DataW H × List MemPlace} (hi:P.underlying ti=some (.int .i64)) (k:DataW.trod enc P w base (fun _=>true) held n ti [c]=some y):∃ z,c=.int .i64 z:=by
 obtain ⟨z,e,_,_⟩:=DataW.trod_int hi k;exact ⟨z,by simpa using e⟩
theorem qgm {ti:TypeId} {n:Nat} {c:Value} {y:DataW H × List MemPlace} (hi:P.underlying ti=some .string) (k:DataW.trod enc P w base (fun _=>true) held n ti [c]=some y):∃ s,c=.string s:=by
 obtain ⟨z,e,_,_⟩:=DataW.trod_string hi k;exact ⟨z,by simpa using e⟩
end
end
noncomputable section
open Go.Sim
open Go.Proofs
variable {α:Type}
theorem zis (ro:Bool) (fl:Nat) {g:FuncId->Option za3} (hc:zaC (qhc g)) (n:Nat) (f:FuncId):qeb Tryd.prog f (qgs ro fl (qhc g) n f):=qh8 ro fl hc (fun _=>rfl) n f
def roL (c:Cfg) (l:List FuncId) (r:List (FuncId × za3)):List (FuncId × za3):=List.rec (motive:=fun _=>List (FuncId × za3)) r (fun f _ ih=>(f,qgs true 0 c 4000 f)::ih) l
theorem qqb {p:Prop} (h:p) (n:Nat):∀ q∈zba p n,q:=by
 intro q hq;rw [qp1] at hq;rw [List.eq_of_mem_replicate hq];exact h
theorem qbb {l m:List Prop} (h:∀ p∈l,p) (h':∀ p∈m,p):∀ p∈app l m,p:=by
 intro p hp;rw [q7a] at hp;rcases List.mem_append.1 hp with hp | hp
 . exact h p hp
 . exact h' p hp
theorem q2a {C:Cut} {i j:Nat} {v:SV} (h:((C.frames[i]?).bind fun p=>p.tmps[j]?)=some (some v)) {p:SP} {u:Option SV} (hp:C.frames[i]? = some p) (hu:p.tmps[j]? = some u) {w:SV} {f:Nat->Nat} (hi:w.Imp (v.ren f)):∃ x,u=some x/\w.Imp (x.ren f):=by
 rw [hp] at h;simp only [Option.bind_some,hu,Option.some.injEq] at h;exact ⟨v,h,hi⟩
theorem qec {c:Cfg} {f:FuncId} {args:List SV} {H:List SO} {D E:SV->List SO->Prop} (h:Runs c f args H D) (hde:∀ v H,D v H->E v H):Runs c f args H E :=
 ⟨h.1,fun O w0 w β vs hH hG ha=>(h.2 O w0 w β vs hH hG ha).mono fun e w' ⟨v,H',x,β',h1,h2,h3⟩=>⟨v,H',x,β',h1,hde _ _ h2,h3⟩⟩
theorem q70 {w:World} {β:Val} {H:List SO} (h:zac Tryd.prog (fun _=>False) w β H w):∃ β',zac Tryd.prog (fun _=>False) w β' (H++[.gone]) w/\β.le β':=by
 have hsn:=h.snoc (Go.Sim.Loc.mk 0 0 0) .gone trivial (fun ho=>by cases ho)
 exact ⟨_,hsn.1,hsn.2⟩
end
end Go.Proofs.YtbhlngmhgplepaaDoor.Aes
namespace Go.Sim
noncomputable section
open Go.Proofs Go.Shelf Go.RowKit Go.Lib Go.Sort
theorem j8a {P:Program} {β:Val} {w:World} {base:Nat} {β':Val} {w':World} (h:Eff P β w base [] [] β' w'):∃ q os',w'=grow (w.drewN q) os':=by
 refine ⟨w'.drawn - w.drawn,w'.heap.extract w.heap.size w'.heap.size,?_⟩;have hd:=h.drawn;have hh:w'.heap=w.heap++w'.heap.extract w.heap.size w'.heap.size:=by
  apply Array.ext_getElem?;intro i;have hs:=h.size;by_cases c:i<w.heap.size
  . rw [Array.getElem?_append_left c];exact h.frame i c (fun n e l hm=>by cases hm) (.nil i)
  . rw [Array.getElem?_append_right (by omega),Array.getElem?_extract]
    by_cases c2:i<w'.heap.size
    . rw [if_pos (by omega),show w.heap.size+(i - w.heap.size)=i by omega]
    . rw [Array.getElem?_eq_none (by omega),if_neg (by omega)]
 have h1:=h.os;have h2:=h.tape;have h3:=h.output;cases w'; cases w;simp only at h1 h2 h3 hd hh ⊢;subst h1 h2 h3;unfold grow World.drewN;simp only [World.mk.injEq,true_and,and_true];exact ⟨hh,by omega⟩
section
variable {P:Program} {α:Type} [Inhabited α]
theorem j9a (hP:zdD P) {g:FuncId} {fn:Func} (hf:P.funcs[g]? = some fn) (hb:fn.body.isSome=true) {s:za3} (hs:qeb P g s) (enc:α->List Value) (k:Nat) (cf:α->α->Int) (A:α->SV) (hA:∀ x,(A x).den (fun _=>none)=some (.agg (enc x).toArray))
  (hr:∀ x y,∃ n:SI,s [A x,A y] [] 0=.ok ⟨.int .i64 n,[],[]⟩/\n.den=cf x y) (blk off size:Nat) (w:World):CmpLays P g #[] enc k cf blk off size w:=by
 intro m os dk _ x y;obtain ⟨n,hn,hc⟩:=hr x y;have h:=hs (fun _=>none) (fun _=>False) (sortWorldK enc k w blk off m dk os) (fun _=>none) [] (sortWorldK enc k w blk off m dk os) 0 [A x,A y] [.agg (enc x).toArray,.agg (enc y).toArray] (zac.start P (fun _=>False) _).toHeapRel0 (zaD.none _) (zae.2 ⟨_,_,hA x,zae.2 ⟨_,_,hA y,rfl,rfl⟩,rfl⟩);rw [hn] at h;obtain ⟨_,h | ⟨v',w',β',h,_⟩⟩:=h (fun i hi=>rfl)
 . refine h.2.mono fun e w' ⟨v',β',he,hv,heff⟩=>⟨?_,j8a heff⟩;rw [he,← hc];have hv:some (Value.int .i64 n.den)=some v':=hv;rw [Option.some.inj hv]
 . rw [qjd hP hf hb] at h;cases h
variable (enc:α->List Value) (k:Nat)
def qod (l:List α) (j:Nat):Value:=(flatK enc k l.toArray)[j]!
theorem qct {w:World} {blk:Nat} {vs rest:List Value} {el:TypeId} {fr:Nat × Nat} {d d':Array α} {m:Nat} {os:Array Obj} (hb:w.heap[blk]? = some (.cells (vs++rest).toArray el fr)) (hv:vs.length=d.size * k) (hd:d'.size=d.size) :
  (sortWorldK enc k w blk 0 m d' os).heap[blk]? = some (.cells ((flatK enc k d').toList++rest).toArray el fr):=by
 have hlt:blk<w.heap.size:=(Array.getElem?_eq_some_iff.1 hb).1;show ((putRowK enc k (Sort.ahead w m) blk 0 d').heap++os)[blk]? = _;have hp:(putRowK enc k (Sort.ahead w m) blk 0 d').heap=w.heap.modify blk (onCells (putCells id 0 (flatK enc k d'))):=rfl;rw [Array.getElem?_append_left (by rw [hp,Array.size_modify]; exact hlt),hp,Array.getElem?_modify,if_pos rfl,hb]
 show some (Obj.cells (putCells id 0 (flatK enc k d') (vs++rest).toArray) el fr)=_;congr 2;apply Array.ext_getElem?;intro j;unfold putCells;have hs:(flatK enc k d').size=vs.length:=by rw [size_flatK,hd,hv]
 rw [Array.getElem?_mapIdx];simp only [List.getElem?_toArray];by_cases c:j<vs.length
 . rw [List.getElem?_append_left c,List.getElem?_append_left (by simpa [hs] using c),List.getElem?_eq_getElem c,Option.map_some,if_pos ⟨Nat.zero_le _,by omega⟩]
   have hj:j<(flatK enc k d').toList.length:=by simpa [hs] using c
   rw [List.getElem?_eq_getElem hj];simp only [id,Nat.sub_zero];rw [getElem!_pos _ j (by omega)]
   simp
 . rw [List.getElem?_append_right (by omega),List.getElem?_append_right (by simp [hs]; omega)]
   have e:(flatK enc k d').toList.length=vs.length:=by simpa using hs
   rw [e];cases hr:rest[j - vs.length]? with
   | none=>rfl
   | some y=>simp only [Option.map_some]; rw [if_neg (by omega)]
theorem qhm {w:World} {blk b:Nat} {d':Array α} {m:Nat} {os:Array Obj} (hb:b<w.heap.size) (hne:b≠blk):(sortWorldK enc k w blk 0 m d' os).heap[b]? = w.heap[b]? := by
 show ((putRowK enc k (Sort.ahead w m) blk 0 d').heap++os)[b]? = _;have hp:(putRowK enc k (Sort.ahead w m) blk 0 d').heap=w.heap.modify blk (onCells (putCells id 0 (flatK enc k d'))):=rfl;rw [Array.getElem?_append_left (by rw [hp,Array.size_modify]; exact hb),hp,Array.getElem?_modify,if_neg (Ne.symm hne)]
theorem qdt {w:World} {blk:Nat} {d':Array α} {m:Nat} {os:Array Obj}:w.heap.size<=(sortWorldK enc k w blk 0 m d' os).heap.size:=by
 show _<=((putRowK enc k (Sort.ahead w m) blk 0 d').heap++os).size;have hp:(putRowK enc k (Sort.ahead w m) blk 0 d').heap=w.heap.modify blk (onCells (putCells id 0 (flatK enc k d'))):=rfl;rw [Array.size_append,hp,Array.size_modify];exact Nat.le_add_right _ _
theorem jab {w:World} {blk:Nat} {vs rest:List Value} {el:TypeId} {lo hi:Nat} {d:Array α} (hb:w.heap[blk]? = some (.cells (vs++rest).toArray el (lo,hi))) (hu:zfG lo hi (vs++rest).length) (hv:vs=(flatK enc k d).toList):HoldsK enc k w blk 0 d:=by
 intro j hj;rw [Nat.zero_add];have hl:j<vs.length:=by rw [hv]; simpa using hj
 constructor
 . unfold World.cell?;rw [hb];show (vs++rest).toArray[j]? = _;rw [List.getElem?_toArray,List.getElem?_append_left hl,List.getElem?_eq_getElem hl];congr 1;rw [getElem!_pos _ j hj];simp only [hv];simp
 . unfold World.frozen?;rw [hb];simp only;have:=hu.at j (by rw [List.length_append]; omega)
   simp only [Bool.and_eq_false_iff,decide_eq_false_iff_not];omega
def zbS (cf:α->α->Int) (D:List α):List α:=D.mergeSort fun x y => !(ltOf cf) y x
theorem jbb {ρ:Ren} (L:SlLaysF0.n6 P ρ) (hP:zdD P) (hs6:∃ fn,P.funcs[ρ.f 6]? = some fn/\fn.body.isSome=true) (aE:∀ w,(isAgg (ρ.t 24)).run P w=.ok true w) (zE:∀ w,(Go.sizeOf (ρ.t 24)).run P w=.ok k w) (hk:∀ x,(enc x).length=k) (h1:∀ x,∀ v∈enc x,v.oneCell'=true) (cf:α->α->Int) (hO:SWO (ltOf cf)) (hT:∀ x y,(ltOf cf) x y=false->(ltOf cf) y x=false->x=y)
  {g:FuncId} {fn:Func} (hf:P.funcs[g]? = some fn) (hb:fn.body.isSome=true) (hcmp:∀ blk size w,CmpLays P g #[] enc k cf blk 0 size w)
  {O:Nat->Prop} {w0 w:World} {β:Val} {H:List SO} {base nm:Nat} {wh:Bool} {el:TypeId} {V:Nat->Value} {D:List α} {c:SC} {l:SN} {vs:List Value} (hH:HeapRel0 P O w0 β H w) (he:H[nm]? = some (.own (.raw V (D.length * k)) wh el)) (hl:l.den=D.length)
  (hV:∀ j,j<D.length * k->V j=qod enc k D j) (hsz:D.length<4611686018427387904) (ha:SV.zal β [.slice ⟨nm,.lit 0⟩ l c,.func (.fn (.func g)) [] []]=some vs) :
  qtb P H β w base (ρ.f 6) vs ⟨.tuple [],[(nm,.own (.raw (qod enc k (zbS cf D)) (D.length * k)) wh el)],[]⟩:=by
 obtain ⟨x,ys,hx,hys,rfl⟩:=zae.1 ha;obtain ⟨y,zs,hy,hzs,rfl⟩:=zae.1 hys;cases hy; cases hzs;obtain ⟨A,C,hA,hC,hle,rfl⟩:=zaf.1 hx;obtain ⟨lo,ws,rest,f1,f2,hβ,hoff,hcr,hh,hu,hw,hi⟩:zaz P β w nm (.own (.raw V (D.length * k)) wh el):=(hH.entries nm _ he).zfL rfl;obtain ⟨hlen,hcr⟩:ws.length=D.length * k/\∀ (i:Nat) (x:Value),ws[i]? = some x->x=V i:=hcr;have hA:(β nm).map (fun l=>(⟨l.blk,l.off+0,none⟩:Addr))=some A:=hA;rw [hβ] at hA;have hA:(⟨lo.blk,lo.off+0,none⟩:Addr)=A:=Option.some.inj hA;rw [hoff] at hA;subst hA;rw [hl];have hws:ws=(flatK enc k D.toArray).toList:=by
  apply List.ext_getElem?;intro i;by_cases c:i<ws.length
  . rw [List.getElem?_eq_getElem c,hcr i _ (List.getElem?_eq_getElem c),hV i (by omega)]
    have:i<(flatK enc k D.toArray).size:=by rw [size_flatK]; simpa [hlen] using c
    rw [List.getElem?_eq_getElem (by simpa using this)]
    unfold qod;rw [getElem!_pos _ i this];simp
  . rw [List.getElem?_eq_none (by omega),List.getElem?_eq_none (by simp; omega)]
 have hHd:=jab enc k hh hu hws;have hblk:lo.blk<w.heap.size:=(Array.getElem?_eq_some_iff.1 hh).1;have hcon:=AnyQ.slices_SortFunc L k aE zE enc hk h1 cf hO g #[] lo.blk 0 C D.toArray w (fun args w=>qjd hP hf hb args w) (hcmp lo.blk D.toArray.size w) hHd hblk (by simpa using hsz)
 refine fun hnew=>⟨fun n e hm => ?_,.inl ⟨hs6,?_⟩⟩
 . simp at hm;obtain ⟨rfl,rfl⟩:=hm;exact ⟨_,he,rfl,.not⟩
 refine hcon.mono fun e w' ⟨hret,d',n,os,hp,hso,hw'⟩=>⟨.tuple #[],β,hret,rfl,?_⟩;have hsd:d'.size=D.toArray.size:=hp.1;have hd':d'.toList=zbS cf D:=Go.Sort.sorted_unique_holds hO hT D.toArray d' hp hso;have hsL:(zbS cf D).length=D.length:=by rw [← hd']; simpa using hsd
 have hd'':d'=(zbS cf D).toArray:=by rw [← hd',Array.toArray_toList]
 subst hw';have hh':=qct enc k (m:=n) (os:=os) hh (by rw [hlen]; simp) hsd
 refine ⟨fun n l h=>h,rfl,rfl,rfl,Nat.le_add_right _ _,qdt enc k,fun _ _=>rfl,fun b hb hne _=>qhm enc k hb fun e => ?_,fun n e e' h h' => ?_,fun n e hm => ?_,fun i e h=>by simp at h,fun i j l l' _ h=>by simp at h⟩
 . exact hne nm (.own (.raw (qod enc k (zbS cf D)) (D.length * k)) wh el) lo (by simp) hβ e.symm
 . simp at h h';rw [h.2,h'.2]
 . simp at hm;obtain ⟨rfl,rfl⟩:=hm;refine ⟨lo,_,rest,f1,f2,hβ,hoff,⟨by simp [size_flatK,hsd],fun i x hx => ?_⟩,hh',?_,hw,fun i' hi' => ?_⟩
   . unfold qod;rw [← hd''];have hi:i<(flatK enc k d').size:=by
      have:=(List.getElem?_eq_some_iff.1 hx).1;simpa using this
     rw [List.getElem?_eq_getElem (by simpa using hi)] at hx
     rw [getElem!_pos _ i hi,← Option.some.inj hx];simp
   . rw [List.length_append] at hu ⊢;simpa [size_flatK,hsd,hlen] using hu
   . have:=hi i' hi';rw [List.length_append] at this ⊢;simpa [size_flatK,hsd,hlen] using this
end
end
end Go.Sim
namespace Go.Proofs.YtbhlngmhgplepaaDoor.Aes
noncomputable section
open Go.Sim
open Go.Proofs
variable {α:Type}
def jod:List SV->Option (za8 × za8)
 | [a,b]=>zah (zb0 a) none fun a=>zah (zb0 b) none fun b=>some (a,b)
 | _=>none
def qf5 (v:SV):Option (za8 × za8):=v.asAgg none jod
theorem qg5:∀ {l:List SV} {p:za8 × za8},jod l=some p->l=[.str p.1,.str p.2]
 | [a,b],p,h=>by
   have h:(zah (zb0 a) none fun a=>zah (zb0 b) none fun b=>some (a,b))=some p:=h;cases ha:zb0 a with
   | none=>rw [ha] at h; cases h
   | some x =>
     cases hb:zb0 b with
     | none=>rw [ha,hb] at h; cases h
     | some y =>
       rw [ha,hb] at h;cases h;rw [q8a ha,q8a hb]
 | [],_,h=>by cases h
 | [_],_,h=>by cases h
 | _::_::_::_,_,h=>by cases h
theorem qhs {v:SV} {p:za8 × za8} (h:qf5 v=some p):v=.agg [.str p.1,.str p.2]:=by
 cases v with
 | agg l=>rw [qg5 h]
 | _=>cases h
def orI (x y:SI):SI:=SI.rec (motive:=fun _=>SI) (fun n=>zab (n != 0) (.lit n) y) (fun n=>.sym (zab (n != 0) n y.den)) (fun b=>.sym (zab ((SI.b8 b).den != 0) (SI.b8 b).den y.den)) (fun b=>.sym (zab ((SI.b32 b).den != 0) (SI.b32 b).den y.den)) (fun b=>.sym (zab ((SI.b64 b).den != 0) (SI.b64 b).den y.den)) x
theorem q11 (x y:SI):(orI x y).den=zab (x.den != 0) x.den y.den:=by
 cases x with
 | lit n =>
   show (zab (n != 0) (SI.lit n) y).den=zab (n != 0) n y.den;cases n != 0 <;> rfl
 | _=>rfl
def c2S:za3:=fun args _ _=>quf args fun v w=>zah (qf5 v) (.stuck 682) fun p=>zah (qf5 w) (.stuck 682) fun q=>.ok ⟨SV.int .i64 (orI (zd2 p.1 q.1) (zd2 p.2 q.2)),[],[]⟩
def c2A (a b c d:ByteArray):List SV:=[.agg [.str (.sym a),.str (.sym b)],.agg [.str (.sym c),.str (.sym d)]]
theorem jgf (a b c d:ByteArray):za4 [] (qka qew 400 79 (c2A a b c d) []) [true]=([(zb5 a c != 0)=true],some (.int .i64 (.sym (zb5 a c)),[])):=by kernel_rfl
theorem jhf (a b c d:ByteArray):za4 [] (qka qew 400 79 (c2A a b c d) []) [false,false]=([(zb5 a c != 0)=false,(zb5 b d != 0)=false],some (.int .i64 (.lit 0),[])):=by kernel_rfl
theorem jif (a b c d:ByteArray):za4 [] (qka qew 400 79 (c2A a b c d) []) [false,true]=([(zb5 a c != 0)=false,(zb5 b d != 0)=true],some (.int .i64 (.sym (zb5 b d)),[])):=by kernel_rfl
theorem qwy {a b c d:za8} (h:a.den=c.den) (h':b.den=d.den):(SV.agg [.str a,.str b]).Imp (.agg [.str c,.str d]):=fun β x hx=>by
 simp only [SV.den,SV.zal,Option.map_some,Option.bind_some] at hx ⊢;rw [← h,← h']; exact hx
theorem c2OK:qeb Tryd.prog 79 c2S:=by
 intro glob O w0 β H w base args vs hH hG ha;refine qed fun v1 v2 hv=>qfa fun p hp=>qfa fun q hq => ?_
 rw [hv,qhs hp,qhs hq] at ha;have ha:=qoa (qwy (c:=.sym p.1.den) (d:=.sym p.2.den) rfl rfl) (qoa (qwy (c:=.sym q.1.den) (d:=.sym q.2.den) rfl rfl) qdc) _ _ ha;have hE:∀ (n:SI),zab (zb5 p.1.den q.1.den != 0) (zb5 p.1.den q.1.den) (zb5 p.2.den q.2.den)=n.den->∀ H2:List SO,(⟨[],[],c2A p.1.den p.2.den q.1.den q.2.den⟩:Ifc).Ends base [] ⟨SV.int .i64 (orI (zd2 p.1 q.1) (zd2 p.2 q.2)),[],[]⟩ (SV.int .i64 n) H2:=fun n hn H2=>⟨q6a (by rw [q11,qjj,qjj,hn]),rfl,trivial,trivial⟩
 cases hb:zb5 p.1.den q.1.den != 0 with
 | true=>exact qud zcq rfl 400 hH ⟨[],[],c2A p.1.den p.2.den q.1.den q.2.den⟩ ha (qkd rfl) [] (by simp) (by simp) (jgf _ _ _ _) (zaa hb qaa) fun H2 _=>hE _ (by rw [hb]; rfl) H2
 | false =>
   cases he:zb5 p.2.den q.2.den != 0 with
   | true=>exact qud zcq rfl 400 hH ⟨[],[],c2A p.1.den p.2.den q.1.den q.2.den⟩ ha (qkd rfl) [] (by simp) (by simp) (jif _ _ _ _) (zaa hb (zaa he qaa)) fun H2 _=>hE _ (by rw [hb]; rfl) H2
   | false=>exact qud zcq rfl 400 hH ⟨[],[],c2A p.1.den p.2.den q.1.den q.2.den⟩ ha (qkd rfl) [] (by simp) (by simp) (jhf _ _ _ _) (zaa hb (zaa he qaa)) fun H2 _=>hE (.lit 0) (by
     have h0:zb5 p.2.den q.2.den=0:=by simpa using he
     rw [hb,h0]; rfl) H2
def qh5:Cfg:=qhc (qkc [(109,zes),(63,zf6),(79,c2S)])
theorem q21:zaC qh5:=qpc (zcu qaw (zcu zck (all1 c2OK)))
end
end Go.Proofs.YtbhlngmhgplepaaDoor.Aes
namespace Go.Proofs
noncomputable section
open Go.Shelf Go.RowKit Go.Lib Go.Sort
def Tryd.sortPr_ren:Go.Shelf.Ren:=⟨fun | 6=>74 | 15=>83 | 14=>82 | 28=>97 | 29=>98 | 20=>89 | 21=>90 | 22=>91 | 23=>92 | 24=>93 | 25=>94 | 26=>95 | 27=>96 | 46=>104 | 47=>105 | 48=>106 | 49=>107 | 50=>108 | 57=>111 | n=>n,fun | 22=>31 | 24=>71 | 25=>118 | 3=>3 | 39=>135 | 0=>0 | 53=>147 | 55=>149 | 4=>4 | 46=>140 | 45=>139 | 50=>144 | 5=>5 | 9=>9 | 66=>152 | 70=>156 | 76=>164 | 77=>165 | n=>n,fun | n=>n⟩
theorem Tryd.sortPr:Go.Proofs.SlLaysF0.n6 Tryd.prog Tryd.sortPr_ren:={
 mixed:=by kernel_rfl
 f6:=⟨Tryd.f74.name,by decide,Tryd.func74.trans (congrArg some (by kernel_rfl))⟩
 f14:=⟨Tryd.f82.name,by decide,Tryd.func82.trans (congrArg some (by kernel_rfl))⟩
 f15:=Tryd.func83.trans (congrArg some (by kernel_rfl))
 f20:=⟨Tryd.f89.name,by decide,Tryd.func89.trans (congrArg some (by kernel_rfl))⟩
 f21:=⟨Tryd.f90.name,by decide,Tryd.func90.trans (congrArg some (by kernel_rfl))⟩
 f22:=⟨Tryd.f91.name,by decide,Tryd.func91.trans (congrArg some (by kernel_rfl))⟩
 f23:=⟨Tryd.f92.name,by decide,Tryd.func92.trans (congrArg some (by kernel_rfl))⟩
 f24:=⟨Tryd.f93.name,by decide,Tryd.func93.trans (congrArg some (by kernel_rfl))⟩
 f25:=⟨Tryd.f94.name,by decide,Tryd.func94.trans (congrArg some (by kernel_rfl))⟩
 f26:=⟨Tryd.f95.name,by decide,Tryd.func95.trans (congrArg some (by kernel_rfl))⟩
 f27:=⟨Tryd.f96.name,by decide,Tryd.func96.trans (congrArg some (by kernel_rfl))⟩
 f28:=Tryd.func97.trans (congrArg some (by kernel_rfl))
 f29:=Tryd.func98.trans (congrArg some (by kernel_rfl))
 f46:=⟨Tryd.f104.name,by decide,Tryd.func104.trans (congrArg some (by kernel_rfl))⟩
 f47:=Tryd.func105.trans (congrArg some (by kernel_rfl))
 f48:=Tryd.func106.trans (congrArg some (by kernel_rfl))
 f49:=⟨Tryd.f107.name,by decide,Tryd.func107.trans (congrArg some (by kernel_rfl))⟩
 f50:=⟨Tryd.f108.name,by decide,Tryd.func108.trans (congrArg some (by kernel_rfl))⟩
 f57:=⟨Tryd.f111.name,by decide,Tryd.func111.trans (congrArg some (by kernel_rfl))⟩
 t0:=Tryd.underlying0
 a0:=Tryd.isAgg0
 z0:=Tryd.sizeOf0
 v0:=Tryd.zeroValue0
 t3:=Tryd.underlying3
 a3:=Tryd.isAgg3
 z3:=Tryd.sizeOf3
 v3:=Tryd.zeroValue3
 t4:=Tryd.underlying4
 a4:=Tryd.isAgg4
 z4:=Tryd.sizeOf4
 v4:=Tryd.zeroValue4
 t5:=Tryd.underlying5
 a5:=Tryd.isAgg5
 z5:=Tryd.sizeOf5
 v5:=Tryd.zeroValue5
 t9:=Tryd.underlying9
 a9:=Tryd.isAgg9
 z9:=Tryd.sizeOf9
 v9:=Tryd.zeroValue9
 t22:=Tryd.underlying31
 a22:=Tryd.isAgg31
 z22:=Tryd.sizeOf31
 v22:=Tryd.zeroValue31
 t25:=Tryd.underlying118
 a25:=Tryd.isAgg118
 z25:=Tryd.sizeOf118
 v25:=Tryd.zeroValue118
 t39:=Tryd.underlying135
 a39:=Tryd.isAgg135
 z39:=Tryd.sizeOf135
 v39:=Tryd.zeroValue135
 t45:=Tryd.underlying139
 a45:=Tryd.isAgg139
 z45:=Tryd.sizeOf139
 v45:=Tryd.zeroValue139
 t46:=Tryd.underlying140
 a46:=Tryd.isAgg140
 z46:=Tryd.sizeOf140
 v46:=Tryd.zeroValue140
 t50:=Tryd.underlying144
 a50:=Tryd.isAgg144
 z50:=Tryd.sizeOf144
 v50:=Tryd.zeroValue144
 t53:=Tryd.underlying147
 a53:=Tryd.isAgg147
 z53:=Tryd.sizeOf147
 v53:=Tryd.zeroValue147
 t55:=Tryd.underlying149
 a55:=Tryd.isAgg149
 z55:=Tryd.sizeOf149
 v55:=Tryd.zeroValue149
 t66:=Tryd.underlying152
 a66:=Tryd.isAgg152
 z66:=Tryd.sizeOf152
 v66:=Tryd.zeroValue152
 t70:=Tryd.underlying156
 a70:=Tryd.isAgg156
 z70:=Tryd.sizeOf156
 v70:=Tryd.zeroValue156
 t76:=Tryd.underlying164
 a76:=Tryd.isAgg164
 z76:=Tryd.sizeOf164
 v76:=Tryd.zeroValue164
 t77:=Tryd.underlying165
 a77:=Tryd.isAgg165
 z77:=Tryd.sizeOf165
 v77:=Tryd.zeroValue165 }
end
end Go.Proofs
namespace Go.Proofs.YtbhlngmhgplepaaDoor.Aes
noncomputable section
open Go.Sim
open Go.Proofs
open Go.Shelf Go.Sort
variable {α:Type}
theorem q31 (x y:ByteArray):Op.bytesLess x.data.toList y.data.toList=decide (x.data.toList<y.data.toList):=bytesLess_eq _ _
theorem jjf {x y:ByteArray} (h:x.data.toList=y.data.toList):x=y:=by
 cases x; cases y;simp only at h;congr 1;exact Array.toList_inj.1 h
theorem qxy {x y:ByteArray}:zb5 x y<0↔x.data.toList<y.data.toList:=by
 unfold zb5;rw [q31];by_cases h:x.data.toList<y.data.toList
 . simp [h]
 . by_cases h2:x=y
   . subst h2; simp [h]
   . simp [h,h2]
theorem zdA {x y:ByteArray}:zb5 x y=0↔x=y:=by
 unfold zb5;rw [q31];by_cases h:x.data.toList<y.data.toList
 . simp only [h,decide_true,if_true];constructor
   . intro h; omega
   . rintro rfl; exact absurd h (List.lt_irrefl _)
 . by_cases h2:x=y <;> simp [h,h2]
theorem tri (x y:ByteArray):x.data.toList<y.data.toList\/x=y\/y.data.toList<x.data.toList:=by
 by_cases h:x.data.toList<y.data.toList
 . exact .inl h
 . by_cases h2:y.data.toList<x.data.toList
   . exact .inr (.inr h2)
   . exact .inr (.inl (jjf (List.le_antisymm (List.not_lt.1 h2) (List.not_lt.1 h))))
abbrev Pr:=ByteArray × ByteArray
noncomputable instance:Inhabited Pr:=⟨(.empty,.empty)⟩
def qae (p:Pr):List Value:=[.string p.1,.string p.2]
def zby (p q:Pr):Int:=zab (zb5 p.1 q.1 != 0) (zb5 p.1 q.1) (zb5 p.2 q.2)
def zdh (p q:Pr):Prop:=p.1.data.toList<q.1.data.toList\/p.1=q.1/\p.2.data.toList<q.2.data.toList
noncomputable instance (p q:Pr):Decidable (zdh p q):=Classical.propDecidable _
theorem jcb {p q:Pr}:zby p q<0↔zdh p q:=by
 unfold zby zdh;by_cases h:zb5 p.1 q.1=0
 . have e:=zdA.1 h;rw [h];show (zb5 p.2 q.2<0)↔_;rw [qxy,e];constructor
   . intro h; exact .inr ⟨rfl,h⟩
   . rintro (h | ⟨_,h⟩)
     . exact absurd h (List.lt_irrefl _)
     . exact h
 . have hb:(zb5 p.1 q.1 != 0)=true:=by simpa using h
   rw [hb];show (zb5 p.1 q.1<0)↔_;rw [qxy];constructor
   . exact .inl
   . rintro (h' | ⟨h',_⟩)
     . exact h'
     . exact absurd (zdA.2 h') h
theorem zfu {p q:Pr}:ltOf zby p q=decide (zdh p q):=by
 unfold ltOf;exact decide_eq_decide.2 jcb
theorem qqh (p:Pr):¬ zdh p p:=by
 rintro (h | ⟨_,h⟩) <;> exact List.lt_irrefl _ h
theorem qgf {p q r:Pr} (h:zdh p q) (h':zdh q r):zdh p r:=by
 rcases h with h | ⟨e,h⟩
 . rcases h' with h' | ⟨e',_⟩
   . exact .inl (List.lt_trans h h')
   . exact .inl (by rw [← e']; exact h)
 . rcases h' with h' | ⟨e',h'⟩
   . exact .inl (by rw [e]; exact h')
   . exact .inr ⟨e.trans e',List.lt_trans h h'⟩
theorem qim (p q:Pr):zdh p q\/p=q\/zdh q p:=by
 rcases tri p.1 q.1 with h | h | h
 . exact .inl (.inl h)
 . rcases tri p.2 q.2 with h' | h' | h'
   . exact .inl (.inr ⟨h,h'⟩)
   . exact .inr (.inl (Prod.ext h h'))
   . exact .inr (.inr (.inr ⟨h.symm,h'⟩))
 . exact .inr (.inr (.inl h))
theorem ze7:SWO (ltOf zby) where
 irrefl p:=by rw [zfu]; exact decide_eq_false (qqh p)
 trans p q r h h':=by
  rw [zfu] at *;exact decide_eq_true (qgf (of_decide_eq_true h) (of_decide_eq_true h'))
 ntrans p q r h h':=by
  rw [zfu] at *;have h:=of_decide_eq_false h;have h':=of_decide_eq_false h';refine decide_eq_false fun hr => ?_
  rcases qim p q with k | rfl | k
  . exact h k
  . exact h' hr
  . exact h' (qgf k hr)
theorem jpd (p q:Pr) (h:ltOf zby p q=false) (h':ltOf zby q p=false):p=q:=by
 rw [zfu] at *;rcases qim p q with k | k | k
 . exact absurd k (of_decide_eq_false h)
 . exact k
 . exact absurd k (of_decide_eq_false h')
theorem jkf (blk size:Nat) (w:World):CmpLays Tryd.prog 79 #[] qae 2 zby blk 0 size w :=
 j9a zcq.prog (fn:=Tryd.f79) (by kernel_rfl) (by kernel_rfl) c2OK qae 2 zby (fun p=>.agg [.str (.sym p.1),.str (.sym p.2)]) (fun p=>rfl) (fun p q=>⟨_,rfl,by rw [q11,qjj,qjj]; rfl⟩) blk 0 size w
end
noncomputable section
open Go.Sim
open Go.Proofs
open Go.Shelf Go.Sort
variable {α:Type}
def zfa (V:Nat->Value) (i:Nat):Pr:=(zd5 (V (i * 2)),zd5 (V (i * 2+1)))
def prL (V:Nat->Value) (n:Nat):List Pr:=(List.range n).map (zfa V)
def PrV (V:Nat->Value) (n:Nat):Prop:=∀ i,i<n->V (i * 2)=.string (zfa V i).1/\V (i * 2+1)=.string (zfa V i).2
theorem qjm (V:Nat->Value) (n:Nat):(prL V n).length=n:=by simp [prL]
theorem q41 (l:List Pr) {i:Nat} (h:i<l.length):qod qae 2 l (i * 2)=.string l[i].1/\qod qae 2 l (i * 2+1)=.string l[i].2:=by
 unfold qod;rw [get_flatK _ _ _ _ (by simp; omega),get_flatK _ _ _ _ (by simp; omega)]
 have e1:i * 2 / 2=i:=by omega
 have e2:(i * 2+1) / 2=i:=by omega
 have e3:i * 2 % 2=0:=by omega
 have e4:(i * 2+1) % 2=1:=by omega
 rw [e1,e2,e3,e4];have e:l.toArray[i]! = l[i]:=by simp [h]
 rw [e];exact ⟨rfl,rfl⟩
theorem jdb {V:Nat->Value} {n:Nat} (h:PrV V n):∀ j,j<(prL V n).length * 2->V j=qod qae 2 (prL V n) j:=by
 intro j hj;rw [qjm] at hj;have hi:j / 2<n:=by omega
 have hi':j / 2<(prL V n).length:=by rw [qjm]; exact hi
 obtain ⟨h1,h2⟩:=h _ hi;obtain ⟨h3,h4⟩:=q41 (prL V n) hi';have e:(prL V n)[j / 2]=zfa V (j / 2):=by simp [prL]
 rw [e] at h3 h4;rcases (show j=j / 2 * 2\/j=j / 2 * 2+1 by omega) with c | c
 . rw [c,show j / 2 * 2 / 2 * 2=j / 2 * 2 by omega] at *
   rw [h1,h3]
 . rw [c,show (j / 2 * 2+1) / 2=j / 2 by omega] at *
   rw [h2,h4]
def qi5 (v:SV):Option FuncId:=match v with
 | .func (.fn (.func g)) [] []=>some g
 | _=>none
theorem qj5 {v:SV} {g:FuncId} (h:qi5 v=some g):v=.func (.fn (.func g)) [] []:=by
 unfold qi5 at h;split at h
 . cases h; rfl
 . cases h
def qk5 (e:SO):Option (((Nat->Value) × Nat) × Bool × TypeId):=match e with
 | .own (.raw V n) wh el=>some ((V,n),wh,el)
 | _=>none
theorem ql5 {e:SO} {r:((Nat->Value) × Nat) × Bool × TypeId} (h:qk5 e=some r):e=.own (.raw r.1.1 r.1.2) r.2.1 r.2.2:=by
 unfold qk5 at h;split at h
 . cases h; rfl
 . cases h
def is0 (n:SN):Bool:=match n with
 | .lit 0=>true
 | _=>false
theorem qyy {n:SN} (h:is0 n=true):n=.lit 0:=by
 unfold is0 at h;split at h
 . rfl
 . cases h
def sfR (nm:Nat) (V:Nat->Value) (N n:Nat) (wh:Bool) (el:TypeId):R zaH :=
 .need (N=n * 2/\PrV V n/\n<4611686018427387904) (.ok ⟨.tuple [],[(nm,.own (.raw (qod qae 2 (zbS zby (prL V n))) (n * 2)) wh el)],[]⟩)
def sfS:za3:=fun args H _=>quf args fun v fv=>zah (qi5 fv) (.stuck 7830) fun g=>zab (Nat.beq g 79) (q9r v (.ok ⟨.tuple [],[],[]⟩) fun a l=>zab (is0 a.off) (zah (nth H a.nm) (.stuck 7831) fun e=>zah (qk5 e) (.stuck 7832) fun r=>sfR a.nm r.1.1 r.1.2 l.den r.2.1 r.2.2) (.stuck 7833)) (.stuck 7834)
def cmpF:SV:=.func (.fn (.func 79)) [] []
theorem jbj:za4 [] (qka qh5 400 74 [.zad,cmpF] []) []=([],some (.tuple [],[])):=by kernel_rfl
theorem sfOK:qeb Tryd.prog 74 sfS:=by
 intro glob O w0 β H w base args vs hH hG ha;refine qed fun v fv hv=>qfa fun g hg=>qgb fun hgg => ?_
 rw [hv,qj5 hg,Nat.eq_of_beq_eq_true hgg] at ha;refine qdm (fun hn => ?_) fun a l c hs=>qgb fun h0=>qfa fun e he=>qfa fun r hr => ?_
 . rw [hn] at ha;exact qcb q21 400 hH ⟨[],[],[.zad,cmpF]⟩ (by intro g j hg; cases hg) ha (qkd rfl).q [] (by simp) (by simp) (q0a jbj qaa fun H2 _=>⟨.refl _,rfl,trivial,trivial⟩)
 . rintro ⟨hN,hV,hz⟩;obtain ⟨nm,off⟩:=a;obtain rfl:=qyy h0;have he:=ql5 hr▸he;rw [qda] at he;rw [hs] at ha;have hl:=qjm r.1.1 l.den;have:=jbb qae 2 Tryd.sortPr zcq.prog ⟨_,Tryd.func74,by kernel_rfl⟩ Tryd.isAgg71 Tryd.sizeOf71 (fun _=>rfl) (fun p v hv=>by simp [qae] at hv; rcases hv with rfl | rfl <;> rfl) zby ze7 jpd (fn:=Tryd.f79) (by kernel_rfl) (by kernel_rfl) jkf (base:=base) (nm:=nm) (wh:=r.2.1) (el:=r.2.2) (V:=r.1.1) (D:=prL r.1.1 l.den) (c:=c) (l:=l) hH (by rw [hl,← hN]; exact he) hl.symm (jdb hV) (by rw [hl]; exact hz) ha
   rw [hl] at this;exact this
end
end Go.Proofs.YtbhlngmhgplepaaDoor.Aes
namespace Go.Sim
noncomputable section
structure zdG (es:List MapEntry) (c:Nat):Prop where
 nd:(es.map fun e=>e.born).Nodup
 lt:∀ e∈es,e.born<c
structure zd3 (es:List MapEntry) (seen:List Nat):Prop where
 nd:seen.Nodup
 mem:∀ b∈seen,∃ e∈es,e.born=b
theorem jlf (es:List MapEntry):zd3 es []:=⟨List.nodup_nil,fun _ h=>by cases h⟩
theorem qzy:∀ {es:List MapEntry},(es.map fun e=>e.born).Nodup->∀ {e e'},e∈es->e'∈es->e.born=e'.born->e=e'
 | [],_,_,_,h,_,_=>by cases h
 | x::es,hn,e,e',h,h',hb=>by
   rw [List.map_cons,List.nodup_cons] at hn;rcases List.mem_cons.1 h with h1 | h1
   . rcases List.mem_cons.1 h' with h2 | h2
     . rw [h1,h2]
     . exact absurd (show x.born∈es.map fun e=>e.born from List.mem_map.2 ⟨e',h2,by rw [← h1,hb]⟩) hn.1
   . rcases List.mem_cons.1 h' with h2 | h2
     . exact absurd (show x.born∈es.map fun e=>e.born from List.mem_map.2 ⟨e,h1,by rw [← h2,hb]⟩) hn.1
     . exact qzy hn.2 h1 h2 hb
theorem q5o {es:List MapEntry} (hn:(es.map fun e=>e.born).Nodup) {e:MapEntry} (h:e∈es):zec es e.born=e:=by
 unfold zec;cases hf:es.find? fun x=>x.born == e.born with
 | none=>exact absurd (List.find?_eq_none.1 hf e h) (by simp)
 | some x =>
   have h1:=List.find?_some hf;have h2:=List.mem_of_find?_eq_some hf;exact qzy hn h2 h (by simpa using h1)
theorem qpu (seen:List Nat) (b:Nat):qse (app seen [b])=b:=by
 unfold qse;rw [q7a]; simp
theorem zb9 {es:List MapEntry} {seen:List Nat} {e:MapEntry}:e∈qwa es seen↔e∈es/\e.born ∉ seen:=by
 unfold qwa;rw [List.mem_filter];simp
theorem q0y {l:List MapEntry} (h:l.isEmpty=false) (z:Nat):qwd l z∈l:=by
 have hl:l≠[]:=by intro e; subst e; cases h
 have h0:0<l.length:=List.length_pos_iff.2 hl;unfold qwd;have hz:z % l.length<l.length:=Nat.mod_lt _ h0;rw [List.getElem?_eq_getElem hz];exact List.getElem_mem hz
theorem q51 {es:List MapEntry} {seen:List Nat} {e:MapEntry} (h:e∈qwa es seen):(qwa es (app seen [e.born])).length<(qwa es seen).length:=by
 have h1:qwa es (app seen [e.born])=(qwa es seen).filter fun x => !(x.born == e.born):=by
  unfold qwa;rw [q7a,List.filter_filter];congr 1;funext x;rw [List.contains_eq_any_beq,List.contains_eq_any_beq,List.any_append];simp [Bool.and_comm,BEq.comm]
 rw [h1];exact List.length_filter_lt_length_iff_exists.2 ⟨e,h,by simp⟩
theorem qqu {es:List MapEntry} {seen:List Nat} (h:(qwa es seen).isEmpty=true):∀ e∈es,e.born∈seen:=by
 intro e he;have hn:qwa es seen=[]:=by simpa using h
 by_cases c:e.born∈seen
 . exact c
 . have:e∈qwa es seen:=zb9.2 ⟨he,c⟩;rw [hn] at this; cases this
theorem q1y {es:List MapEntry} {seen:List Nat} (h:zd3 es seen) {e:MapEntry} (he:e∈qwa es seen):zd3 es (app seen [e.born]):=by
 obtain ⟨h1,h2⟩:=zb9.1 he;rw [q7a];refine ⟨List.nodup_append.2 ⟨h.nd,by simp,fun a ha b hb => ?_⟩,fun b hb => ?_⟩
 . rw [List.mem_singleton] at hb;rintro rfl;exact h2 (hb▸ha)
 . rcases List.mem_append.1 hb with hb | hb
   . exact h.mem b hb
   . exact ⟨e,h1,(List.mem_singleton.1 hb).symm⟩
theorem jeb {es:List MapEntry} {seen:List Nat} {c:Nat} (h:zdG es c):¬ qk3 es seen c:=by
 rintro ⟨_,h1,h2⟩;cases es with
 | nil=>exact h1 rfl
 | cons e es =>
   have:=h2 e (by simp)
   have:=h.lt e (by simp)
   omega
theorem qis {β:Type} [DecidableEq β]:∀ {l l':List β},l.Nodup->l'.Nodup->(∀ x,x∈l↔x∈l')->l.Perm l'
 | [],l',_,_,h=>by
   cases l' with
   | nil=>exact .refl _
   | cons a l'=>exact absurd ((h a).2 (by simp)) (by simp)
 | a::l,l',hn,hn',h=>by
   rw [List.nodup_cons] at hn;have ha:a∈l':=(h a).1 (by simp)
   refine .trans (.cons a (qis hn.2 (hn'.erase a) fun x => ?_)) (List.perm_cons_erase ha).symm;rw [hn'.mem_erase_iff];constructor
   . intro hx;exact ⟨fun e=>hn.1 (e▸hx),(h x).1 (by simp [hx])⟩
   . rintro ⟨h1,h2⟩;rcases List.mem_cons.1 ((h x).2 h2) with e | e
     . exact absurd e h1
     . exact e
theorem jmf {es:List MapEntry} {seen:List Nat} {c:Nat} (hm:zdG es c) (hv:zd3 es seen) (h:(qwa es seen).isEmpty=true):(seen.map (zec es)).Perm es:=by
 have h1:seen.Perm (es.map fun e=>e.born):=qis hv.nd hm.nd fun x=>by
  constructor
  . intro hx;obtain ⟨e,he,hb⟩:=hv.mem x hx;exact List.mem_map.2 ⟨e,he,hb⟩
  . intro hx;obtain ⟨e,he,rfl⟩:=List.mem_map.1 hx;exact qqu h e he
 have h2:=h1.map (zec es);rw [List.map_map] at h2;refine h2.trans ?_
 have:es.map (zec es ∘ fun e=>e.born)=es:=by
  conv=>rhs; rw [← List.map_id es]
  exact List.map_congr_left fun e he=>q5o hm.nd he
 rw [this]
end
end Go.Sim
namespace Go.Proofs.YtbhlngmhgplepaaDoor.Aes
noncomputable section
open Go.Sim
open Go.Proofs
variable {α:Type}
def rlS4:List (FuncId × za3):=[(74,sfS)]
theorem jcj:∀ y∈rlS4,qeb Tryd.prog y.1 y.2:=all1 sfOK
def zc1:Cfg:=qhc (qkc rlS4)
theorem q61:zaC zc1:=qpc jcj
def kPr:MSh:=⟨true,[.s,.s]⟩
def qji (T:List SV) (l:List Nat):List (Nat × SV):=zas (fun i=>(i,(nth T i).getD qsa)) l
def jdj (ss:List SF):List (List Nat)->List SP:=List.rec (motive:=fun _=>List (List Nat)->List SP) (fun _=>[]) (fun s _ ih ls=>List.rec (motive:=fun _=>List SP) (qdw s []::ih []) (fun l r _=>qdw s (qji s.tmps l)::ih r) ls) ss
section
variable (vS:MSh) (es:List MapEntry) (c:Nat) (seen:List Nat) (n:Nat) (V:Nat->Value) (J:zaQ)
def soT (st:Option (Nat × Nat)):Tree:=qka (zc1.at st) 20000 68 [.map 0] [.obj (.zaU kPr vS es c)]
def soS:SS:=qub (soT vS es c (some (5,2))) []
def soF:List SP:=jdj (soS vS es c).frames [[0,1,4,5],[2],[],[1]]
def soE (i:Nat):HP:=.ent ((nth (soS vS es c).heap i).getD .gone)
def soL:HP:=qes (nth (soS vS es c).heap 4) [(2,.ptr ⟨2,.lit 0⟩)]
def itE:SO:=.obj (.iter (some 0) c seen c)
def ze8:Cut:=⟨soF vS es c,[soE vS es c 0,soE vS es c 1,soE vS es c 2,soE vS es c 3,soL vS es c,.ent (itE c [])]⟩
def zeF:Cut:=⟨soF vS es c,[soE vS es c 0,soE vS es c 1,.ent (.own (.lst [.slice ⟨6,.lit 0⟩ (.sym n) (.rest 6 0)]) true 31),soE vS es c 3,soL vS es c,.ent (itE c seen),.ent (.own (.raw V (n * 2)) false 71)]⟩
def so0 (st:Option (Nat × Nat)):Tree:=za9 (zc1.at st) 20000 ((ze8 vS es c).fill J)
def so1 (st:Option (Nat × Nat)):Tree:=za9 (zc1.at st) 20000 ((zeF vS es c seen n V).fill J)
def prK (v:Value):Pr:=(zd5 (qnq v 0),zd5 (qnq v 1))
def nxB (z:Nat):Nat:=(qwd (qwa es seen) z).born
def nxK (b:Nat):Pr:=prK (zec es (qse (app seen [b]))).key
def zee (p:Pr):Nat->Value:=zc5 (fun i=>V (0+i)) (n * 2) fun j=>atV [.string p.1,.string p.2] (0+j)
def nxG:Prop:=¬ qk3 es seen c/\∀ e∈es,e.born<c
def nxE (b:Nat):Prop:=c=c/\app seen [b]≠[]/\∃ e∈es,e.born=qse (app seen [b])
variable (z:Nat->Nat->Nat)
def n6:List Nat:=[0,1,2,3,4,5]
theorem jnf:zaq [] (ze8 vS es c) n6 (soT vS es c (some (5,2))) [] z=([],some (.inr (qja n6 6 (ze8 vS es c)))):=by kernel_rfl
theorem jof:zaq [0] (ze8 vS es c) n6 (so0 vS es c J none) [true] z=([nxG es c [],(qwa es []).isEmpty=true],some (.inl (.zad,[some (.obj (.zaU kPr vS es c))]))):=by kernel_rfl
theorem jej:zaq [0,6] (zeF vS es c seen n V) [0,1,2,3,4,5,6] (so1 vS es c seen n V J none) [true] z=([nxG es c seen,(qwa es seen).isEmpty=true,n * 2=n * 2/\PrV V n/\n<4611686018427387904],some (.inl (.slice ⟨6,.lit 0⟩ (.sym n) (.rest 6 0),[some (.obj (.zaU kPr vS es c)),some (.own (.raw (qod qae 2 (zbS zby (prL V n))) (n * 2)) false 71)]))):=by kernel_rfl
def zgi:Cut:=zeF vS es c [] 0 (fun _=>undef)
def fsM (p:Pr):List (Nat × HP):=[(2,.ent (.own (.lst [.slice ⟨9,.lit 0⟩ (.lit 1) (.rest 9 0)]) true 31)),(6,.ent (.own (.lst [.str (.sym p.1),.str (.sym p.2)]) false 71))]
theorem jfb:zaq [] (zgi vS es c) [0,1,2,3,4,5,9] (so0 vS es c J (some (5,2))) [false] z=([nxG es c [],(qwa es []).isEmpty=false,nxE es c [] (nxB es [] (z 0 0))],some (.inr (qva [] (fsM (nxK es [] (nxB es [] (z 0 0)))) (qja [0,1,2,3,4,5,9] 10 (zeF vS es c (app [] [nxB es [] (z 0 0)]) 1 V))))):=by kernel_rfl
theorem jpf:zaq [] (zgi vS es c) [0,1,2,3,4,5,10] (so1 vS es c seen n V J (some (5,2))) [false] z=([nxG es c seen,(qwa es seen).isEmpty=false,nxE es c seen (nxB es seen (z 0 0)),2<=2,0+n * 2<=n * 2,((n+1) * 32<140737488355328/\n+1<140737488355328)/\∀ i,i<2->(atV [.string (nxK es seen (nxB es seen (z 0 0))).1,.string (nxK es seen (nxB es seen (z 0 0))).2] (0+i)).oneCell'=true],
  some (.inr (qja [0,1,2,3,4,5,10] 11 (zeF vS es c (app seen [nxB es seen (z 0 0)]) (n+1) (zee n V (nxK es seen (nxB es seen (z 0 0)))))))):=by kernel_rfl
theorem zid:zab (qua 1 n6 (ze8 vS es c) (ze8 vS es c)) (zaO qpa (ze8 vS es c).heap) false=true:=by kernel_rfl
theorem zic:zab (qua 1 [0,1,2,3,4,5,9] (zgi vS es c) (zeF vS es c seen n V)) (zaO qpa (zeF vS es c seen n V).heap) false=true:=by kernel_rfl
theorem jfj:zab (qua 1 [0,1,2,3,4,5,10] (zgi vS es c) (zeF vS es c seen n V)) (zaO qpa (zeF vS es c seen n V).heap) false=true:=by kernel_rfl
end
end
noncomputable section
open Go.Sim
open Go.Proofs
variable {α:Type}
def bA (l:List UInt8):ByteArray:=⟨l.toArray⟩
def rA:SV:=.str (.lit (bA [65]))
def rB:SV:=.str (.lit (bA [66]))
def rC:SV:=.str (.lit (bA [67]))
def rD:SV:=.str (.lit (bA [68,46,67]))
def es5:List (SV × SV × Nat):=[(.agg [rA,rB],.bool (.lit true),0),(.agg [rA,rC],.bool (.lit true),1),(.agg [rB,rD],.bool (.lit true),2),(.agg [rC,rD],.bool (.lit true),3),(.agg [rD,rA],.bool (.lit true),4)]
def zfN:Tree:=qka qh5 20000 68 [.map 0] [.obj (.map es5 5)]
def zhP (m:Nat):Nat->List Bool:=Nat.rec (motive:=fun _=>Nat->List Bool) (fun _=>[]) (fun _ ih x=>Nat.rec (motive:=fun _=>List Bool) [true] (fun y _=>false::ih y) x) m
def zgw (v m:Nat):Nat->Nat->List Prop:=Nat.rec (motive:=fun _=>Nat->Nat->List Prop) (fun _ _=>[]) (fun _ ih j x=>Nat.rec (motive:=fun _=>List Prop) [decide (v=j)=true] (fun y _=>(decide (v=j)=false)::ih (Nat.succ j) y) x) m
theorem q4k (v:Nat):∀ (m j:Nat),j<=v->∀ p∈zgw v m j (min (v - j) m),p
 | 0,j,_=>fun p hp=>absurd (show p∈([]:List Prop) from hp) (by simp)
 | m+1,j,h=>by
   cases hx:min (v - j) (m+1) with
   | zero =>
     have:v=j:=by omega
     intro p hp;have hp:p∈[decide (v=j)=true]:=hp;simp only [List.mem_singleton] at hp;subst hp;exact decide_eq_true this
   | succ y =>
     intro p hp;have hp:p∈(decide (v=j)=false)::zgw v m (j+1) y:=hp;rcases List.mem_cons.1 hp with rfl | hp
     . exact decide_eq_false (by omega)
     . have e:y=min (v - (j+1)) m:=by omega
       rw [e] at hp;exact q4k v m (j+1) (by omega) p hp
def zf4 (b k:Nat):List Bool:=app (zhP 4 b) (app (zhP 3 (k / 6)) (app (zhP 2 (k % 6 / 2)) (zhP 1 (k % 2))))
def zfy (z:Nat->Nat->Nat) (b k:Nat):List Prop:=app (zgw (z 0 0) 4 0 b) (app (zgw (z 1 0) 3 0 (k / 6)) (app (zgw (z 2 0) 2 0 (k % 6 / 2)) (zgw (z 3 0) 1 0 (k % 2))))
def zfS:SV × List (Option SO):=(.slice ⟨25,.lit 0⟩ (.lit 5) (.rest 25 0),[some (.obj (.map es5 5)),some (.own (.lst [rA,rB,rA,rC,rB,rD,rC,rD,rD,rA]) false 71)])
end
end Go.Proofs.YtbhlngmhgplepaaDoor.Aes
