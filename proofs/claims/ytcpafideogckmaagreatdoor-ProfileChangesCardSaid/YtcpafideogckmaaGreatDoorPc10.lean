/-
  Texts behind one another: the symbolic simulator and what it is told of the program.
-/
import Derived.Test.YtcpafideogckmaaGreatDoorCzTxt4a
import Derived.Test.YtcpafideogckmaaGreatDoorCzTxt4b
import Derived.Test.YtcpafideogckmaaGreatDoorCzTxt4c
import Derived.Test.YtcpafideogckmaaGreatDoorPc6
import Derived.Test.YtcpafideogckmaaGreatDoorPc5
namespace Go.Proofs.YtcpafideogckmaaGreatDoor.Aes
noncomputable section
open Go.Sim
open Go.Proofs
open Go.RowKit
section
variable (X Y Z:Nat->BitVec 8) (n m1 n2 m2 n3 m3 o o2 o3:Nat)
theorem j9g {l:Nat} (h:16<=l) (h2:l<=224):rdxL X Y Z n m1 n2 m2 n3 m3 o o2 o3 l=rdxR X Y Z n n2 n3 o o2 o3 l:=by
 have hm:(16<=l/\l<16+16)\/(32<=l/\l<32+16)\/(48<=l/\l<48+16)\/(64<=l/\l<64+16)\/(80<=l/\l<80+16)\/(96<=l/\l<96+16)\/(112<=l/\l<112+16)\/(128<=l/\l<128+16)\/(144<=l/\l<144+16)\/(160<=l/\l<160+16)\/(176<=l/\l<176+16)\/(192<=l/\l<192+16)\/(208<=l/\l<208+16)\/l=224:=by omega
 rcases hm with ⟨h1,h2⟩ | ⟨h1,h2⟩ | ⟨h1,h2⟩ | ⟨h1,h2⟩ | ⟨h1,h2⟩ | ⟨h1,h2⟩ | ⟨h1,h2⟩ | ⟨h1,h2⟩ | ⟨h1,h2⟩ | ⟨h1,h2⟩ | ⟨h1,h2⟩ | ⟨h1,h2⟩ | ⟨h1,h2⟩ | rfl
 . exact qaf (rdec1 X Y Z n m1 n2 m2 n3 m3 o o2 o3) h1 h2
 . exact qaf (rdec2 X Y Z n m1 n2 m2 n3 m3 o o2 o3) h1 h2
 . exact qaf (rdec3 X Y Z n m1 n2 m2 n3 m3 o o2 o3) h1 h2
 . exact qaf (rdec4 X Y Z n m1 n2 m2 n3 m3 o o2 o3) h1 h2
 . exact qaf (rdec5 X Y Z n m1 n2 m2 n3 m3 o o2 o3) h1 h2
 . exact qaf (rdec6 X Y Z n m1 n2 m2 n3 m3 o o2 o3) h1 h2
 . exact qaf (rdec7 X Y Z n m1 n2 m2 n3 m3 o o2 o3) h1 h2
 . exact qaf (rdec8 X Y Z n m1 n2 m2 n3 m3 o o2 o3) h1 h2
 . exact qaf (rdec9 X Y Z n m1 n2 m2 n3 m3 o o2 o3) h1 h2
 . exact qaf (jvt X Y Z n m1 n2 m2 n3 m3 o o2 o3) h1 h2
 . exact qaf (jwt X Y Z n m1 n2 m2 n3 m3 o o2 o3) h1 h2
 . exact qaf (jxt X Y Z n m1 n2 m2 n3 m3 o o2 o3) h1 h2
 . exact qaf (jyt X Y Z n m1 n2 m2 n3 m3 o o2 o3) h1 h2
 . exact jzt X Y Z n m1 n2 m2 n3 m3 o o2 o3
end
def tOk (l:Nat):Bool:=decide (16<=l/\l<=224)
theorem q22 {w:Nat}:∀ m i:Nat,16 * (i+m)<=w+16->∀ p∈rdxN w m i,p
 | 0,_,_=>qaa
 | m+1,i,h=>all_cons ⟨by omega,by omega⟩ (all_cons ⟨by omega,by omega⟩ (q22 m (i+1) (by omega)))
theorem jqd:RunR q18 25 decF tOk dcp:=by
 intro X Y Z n m1 n2 m2 n3 m3 o o2 o3 l hok h1 h2 h3 h4
 obtain ⟨h16,h224⟩:=of_decide_eq_true hok
 refine ⟨qsw l,rdxC X Y Z n n2 n3 o o2 o3 l,?_,j9g X Y Z n m1 n2 m2 n3 m3 o o2 o3 h16 h224,?_⟩
 . unfold qsw
   cases Nat.beq l 16 with
   | true=>show 4<=6; omega
   | false=>show 4<=16+_; omega
 . unfold rdxC
   cases hb:Nat.beq l 16 with
   | true =>
     have:=Nat.eq_of_beq_eq_true hb
     subst this
     exact all_cons (qda X) (all_cons h1 (all_cons (qda Z) (all_cons ⟨h3,by omega⟩ (all_cons (qda Y) (all_cons ⟨by omega,h2⟩ qaa)))))
   | false =>
     have hne:l≠16:=fun h=>by rw [h] at hb; cases hb
     have hw:32<=16 * numB l/\16 * numB l<l+16/\l<=16 * numB l:=by unfold numB; omega
     show ∀ p∈rdxM X Y Z n n2 n3 o o2 o3 l (16 * numB l),p
     have hd:16 * numB l / 16=numB l:=by omega
     generalize numB l=q at hw hd
     exact all_cons (qda X) (all_cons h1 (all_cons (qda Z) (all_cons ⟨by omega,by omega⟩ (all_cons (by omega) (all_cons (by omega) (all_cons (by omega) (all_cons ⟨by omega,by omega⟩ (all_cons (qda Y) (all_cons ⟨by omega,h2⟩ (q22 _ 2 (by
      show 16 * (2+(16 * q / 16 - 1))<=16 * q+16
      omega)))))))))))
end
end Go.Proofs.YtcpafideogckmaaGreatDoor.Aes
namespace Go.Sim
noncomputable section
variable {α:Type}
structure SP where
 fn:FuncId
 tmps:List (Option SV)
 todo:List SItem
 defers:List SD
 roundOf:Option Nat
inductive HP where
 | ent (e:SO)
 | loop (state:LoopState) (pending:Option Code) (fn:FuncId) (tmps:List (Option SV)) (params:Array Tmp) (assign body:Code) (defers:Nat)
structure Cut where
 frames:List SP
 heap:List HP
structure Junk where
 fr:Nat->Nat->Value
 hp:Nat->Nat->Value
def q28 (js:Nat->Value) (T:List (Option SV)):Nat->List SV :=
 List.rec (motive:=fun _=>Nat->List SV) (fun _=>[]) (fun o _ ih k=>optC o (.val (js k)) (fun v=>v)::ih (Nat.succ k)) T
def SP.fill (js:Nat->Value) (p:SP):SF:=⟨p.fn,q28 js p.tmps 0,p.todo,p.defers,p.roundOf⟩
def jrd (J:Nat->Nat->Value) (l:List SP):Nat->List SF:=List.rec (motive:=fun _=>Nat->List SF) (fun _=>[]) (fun p _ ih i=>p.fill (J i)::ih (Nat.succ i)) l
def HP.fill (js:Nat->Value) (E:HP):SO:=HP.rec (motive:=fun _=>SO) (fun e=>e) (fun s p f T ps a b d=>.loop s p f (q28 js T 0) ps a b d) E
def qom (J:Nat->Nat->Value) (l:List HP):Nat->List SO:=List.rec (motive:=fun _=>Nat->List SO) (fun _=>[]) (fun p _ ih i=>p.fill (J i)::ih (Nat.succ i)) l
def Cut.fill (J:Junk) (C:Cut):SS:=⟨jrd J.fr C.frames 0,qom J.hp C.heap 0⟩
def SItem.ren (f:Nat->Nat):SItem->SItem
 | .inRF n=>.inRF (f n)
 | .endRF n=>.endRF (f n)
 | x=>x
def SD.ren (f:Nat->Nat):SD->SD
 | .coll n=>.coll (f n)
 | .call g xs ys=>.call (g.ren f) (SV.renL f xs) (SV.renL f ys)
def qx0 (f:Nat->Nat) (es:List (SV × SV × Nat)):List (SV × SV × Nat):=mapN (fun e=>(e.1.ren f,e.2.1.ren f,e.2.2)) es
def SObj.ren (f:Nat->Nat) (o:SObj):SObj:=SObj.rec (motive:=fun _=>SObj) (fun es clock=>.map (qx0 f es) clock) (fun m since seen last=>.iter (optC m none fun n=>some (f n)) since seen last) (fun s pos=>.str s pos) o
theorem q4t (f:Nat->Nat) (β:Val):∀ es:List (SV × SV × Nat),q1a β (qx0 f es)=q1a (fun n=>β (f n)) es
 | []=>rfl
 | e::r=>by
   show q1a β ((e.1.ren f,e.2.1.ren f,e.2.2)::qx0 f r)=_
   simp only [q1a,SV.den_ren,q4t f β r]
theorem SObj.den_ren (f:Nat->Nat) (β:Val) (o:SObj):(o.ren f).den β=o.den (fun n=>β (f n)):=by
 cases o with
 | map es clock =>
   show (q1a β (qx0 f es)).map _=(q1a _ es).map _
   rw [q4t]
 | iter m since seen last=>cases m <;> rfl
 | str s pos=>rfl
def SObj.Imp (a b:SObj):Prop:=∀ β x,a.den β=some x->b.den β=some x
theorem ItemRel.ren {β:Val} (f:Nat->Nat) {x:SItem} {y:Item} (h:ItemRel β (x.ren f) y):ItemRel (fun n=>β (f n)) x y:=by
 cases x <;> cases y <;> exact h
theorem TodoRel.ren {β:Val} (f:Nat->Nat):∀ {x:List SItem} {y:List Item},TodoRel β (x.map (SItem.ren f)) y->TodoRel (fun n=>β (f n)) x y
 | [],[],_=>trivial
 | _::_,_::_,h=>⟨ItemRel.ren f h.1,TodoRel.ren f h.2⟩
 | [],_::_,h=>h.elim
 | _::_,[],h=>h.elim
theorem SD.den_ren (f:Nat->Nat) (β:Val) (d:SD):(d.ren f).den β=d.den (fun n=>β (f n)):=by
 cases d with
 | coll n=>rfl
 | call g xs ys=>simp only [SD.ren,SD.den,SFn.den_ren,SV.denL_ren]
theorem SD.denL_ren (f:Nat->Nat) (β:Val):∀ l:List SD,SD.denL β (l.map (SD.ren f))=SD.denL (fun n=>β (f n)) l
 | []=>rfl
 | d::l=>by simp only [List.map_cons,SD.denL,SD.den_ren,SD.denL_ren f β l]
def GenT (f:Nat->Nat):List SV->List (Option SV)->Prop
 | v::vs,some u::us=>v.Imp (u.ren f)/\GenT f vs us
 | _::vs,none::us=>GenT f vs us
 | [],[]=>True
 | _,_=>False
structure GenF (f:Nat->Nat) (s:SF) (p:SP):Prop where
 fn:s.fn=p.fn
 tmps:GenT f s.tmps p.tmps
 todo:s.todo=p.todo.map (SItem.ren f)
 defers:s.defers=p.defers.map (SD.ren f)
 roundOf:s.roundOf=p.roundOf.map f
def qy0 (f:Nat->Nat):List SF->List SP->Prop
 | s::ss,p::ps=>GenF f s p/\qy0 f ss ps
 | [],[]=>True
 | _,_=>False
def GenE (f:Nat->Nat) (e:Option SO) (E:HP):Prop :=
 match E with
 | .ent (.own c w el)=>∃ c0,e=some (.own c0 w el)/\c0.Imp (c.ren f)
 | .ent (.row c)=>∃ c0,e=some (.row c0)/\c0.Imp (c.ren f)
 | .ent (.deferred ds)=>e=some (.deferred (ds.map (List.map (SD.ren f))))
 | .ent (.obj o)=>∃ o0,e=some (.obj o0)/\o0.Imp (o.ren f)
 | .ent .gone=>True
 | .ent (.loop ..)=>False
 | .loop s p g T ps a b d=>∃ T0,e=some (.loop s p g T0 ps a b (f d))/\GenT f T0 T
def qjc (names:List Nat) (N j:Nat):Nat:=optC (nth names j) (Nat.add N j) fun n=>n
structure Gen (k0:Nat) (s:SS) (C:Cut) (names:List Nat):Prop where
 keep:∀ j,j<k0->names[j]? = some j
 nodup:names.Nodup
 len:names.length=C.heap.length
 frames:qy0 (qjc names s.heap.length) s.frames C.frames
 heap:∀ j E,C.heap[j]? = some E->GenE (qjc names s.heap.length) s.heap[qjc names s.heap.length j]? E
structure BaseOK (k0:Nat) (B:Base):Prop where
 fix:∀ n,k0<=n->B.fix n=none
 glob:∀ g nm,B.glob g=some nm->nm<k0
theorem q5m {β β':Val} {f:Nat->Nat} (hβ:β'=fun n=>β (f n)) {js:Nat->Value}:∀ {vs:List SV} {T:List (Option SV)} {xs:List Value} {o:Nat},SV.denL β vs=some xs->GenT f vs T->(∀ k x,xs[k]? = some x->js (o+k)=x)->SV.denL β' (q28 js T o)=some xs
 | [],[],xs,o,h,_,_=>h
 | v::vs,u::us,xs,o,h,hg,hj=>by
   obtain ⟨y,ys,hy,hys,rfl⟩:=denL_cons.1 h
   have hj':∀ k x,ys[k]? = some x->js (o+1+k)=x:=fun k x hk=>by
    rw [show o+1+k=o+(k+1) from by omega]; exact hj (k+1) x (by simpa using hk)
   cases u with
   | some u =>
     refine denL_cons.2 ⟨y,ys,?_,q5m hβ hys hg.2 hj',rfl⟩
     show u.den β'=_
     rw [hβ,← SV.den_ren]; exact hg.1 _ _ hy
   | none =>
     refine denL_cons.2 ⟨y,ys,?_,q5m hβ hys hg hj',rfl⟩
     show some (js o)=_
     rw [show o=o+0 from rfl,hj 0 y rfl]
 | [],_::_,_,_,_,h,_=>h.elim
 | _::_,[],_,_,_,h,_=>h.elim
theorem qkz {names:List Nat} {N j:Nat} (h:j<names.length):names[j]? = some (qjc names N j):=by
 unfold qjc
 rw [qga,List.getElem?_eq_getElem h]; rfl
theorem jsd {names:List Nat} {N j:Nat} (h:names.length<=j):qjc names N j=N+j:=by
 unfold qjc
 rw [qga,List.getElem?_eq_none h]; rfl
theorem qtw (J:Nat->Nat->Value):∀ (l:List HP) (o i:Nat),(qom J l o)[i]? = l[i]?.map (HP.fill (J (o+i)))
 | [],_,_=>by simp [qom]
 | _::_,_,0=>rfl
 | _::l,o,i+1=>by
   show (qom J l (o+1))[i]? = _
   rw [qtw J l (o+1) i,show o+1+i=o+(i+1) from by omega]; simp
theorem qsq (J:Nat->Nat->Value):∀ (l:List HP) (o:Nat),(qom J l o).length=l.length
 | [],_=>rfl
 | _::l,o=>congrArg (· + 1) (qsq J l (o+1))
theorem HP.owned_fill {f:Nat->Nat} {js:Nat->Value} {e:Option SO} {E:HP} (h:GenE f e E) (ho:(E.fill js).owned=true):∃ e0,e=some e0/\e0.owned=true:=by
 cases E with
 | ent E =>
   cases E with
   | own c w el=>obtain ⟨c0,rfl,_⟩:=h; exact ⟨_,rfl,rfl⟩
   | row c=>cases ho
   | loop=>exact h.elim
   | deferred ds=>have h:e=_:=h; subst h; exact ⟨_,rfl,rfl⟩
   | gone=>cases ho
   | obj o=>obtain ⟨o0,rfl,_⟩:=h; exact ⟨_,rfl,rfl⟩
 | loop s p g T ps a b d=>obtain ⟨T0,rfl,_⟩:=h; exact ⟨_,rfl,rfl⟩
theorem qho {β β':Val} {f:Nat->Nat} (hβ:β'=fun n=>β (f n)) {J:Nat->Nat->Value}:∀ {ss:List SF} {ps:List SP} {fs:List Frame} {o:Nat},FramesRel β ss fs->qy0 f ss ps->(∀ i fr,fs[i]? = some fr->∀ k x,fr.tmps.toList[k]? = some x->J (o+i) k=x)->FramesRel β' (jrd J ps o) fs
 | [],[],[],o,_,_,_=>trivial
 | s::ss,p::ps,fr::fs,o,h,hg,hj=>by
   have h0:=hj 0 fr rfl
   refine ⟨?_,qho hβ h.2 hg.2 fun i fr' hi k x hk => ?_⟩
   . obtain ⟨h1,h2,h3,h4,h5,h6,h7⟩:=h.1
     obtain ⟨g1,g2,g3,g4,g5⟩:=hg.1
     refine ⟨h1.trans g1,?_,?_,?_,h5,h6,?_⟩
     . exact q5m hβ h2 g2 fun k x hk=>by rw [Nat.zero_add]; exact h0 k x hk
     . rw [hβ]; rw [g3] at h3; exact TodoRel.ren f h3
     . show SD.denL β' p.defers=_
       rw [hβ,← SD.denL_ren,← g4]; exact h4
     . show RoundRel β' p.roundOf fr.roundOf
       rw [hβ]
       rw [g5] at h7
       cases hp:p.roundOf <;> cases hr:fr.roundOf <;> rw [hp,hr] at h7 <;> exact h7
   . rw [show o+1+i=o+(i+1) from by omega]
     exact hj (i+1) fr' (by simpa using hi) k x hk
 | [],_::_,_,_,_,h,_=>h.elim
 | _::_,[],_,_,_,h,_=>h.elim
 | [],[],_::_,_,h,_,_=>h.elim
 | _::_,_::_,[],_,h,_,_=>h.elim
theorem Cells.den_ren (f:Nat->Nat) {β:Val} {c:Cells} {vs:List Value} (h:CellsRel β (c.ren f) vs):CellsRel (fun n=>β (f n)) c vs:=by
 cases c with
 | lst l =>
   have h:SV.denL β (SV.renL f l)=some vs:=h
   rw [SV.denL_ren] at h; exact h
 | fn g n =>
   obtain ⟨h1,h2⟩:=h
   refine ⟨h1,fun i x hx => ?_⟩
   have:=h2 i x hx
   rw [SV.den_ren] at this; exact this
theorem jgo {B:Base} {k0:Nat} (hB:BaseOK k0 B) {s:SS} {C:Cut} {names:List Nat} (h:Gen k0 s C names) {m:Machine} (hM:MRel B s m):∃ J,MRel B (C.fill J) m:=by
 obtain ⟨β,fr,frs,w,rfl,hFs,hH,hG,hl⟩:=hM.ex
 obtain ⟨hkeep,hnd,hlen,hgf,hgh⟩:=h
 generalize hf:qjc names s.heap.length=f at hgf hgh
 have hlt:∀ j,j<names.length->names[j]? = some (f j):=fun j hj=>by rw [← hf]; exact qkz hj
 have hge:∀ j,names.length<=j->f j=s.heap.length+j:=fun j hj=>by rw [← hf]; exact jsd hj
 have hid:∀ j,j<k0->f j=j:=fun j hj=>by
  have h1:=hkeep j hj
  have h2:=(List.getElem?_eq_some_iff.1 h1).1
  rw [hlt j h2] at h1; exact Option.some.inj h1
 have hinj:∀ i j,i<names.length->j<names.length->f i=f j->i=j:=fun i j hi hj he=>by
  have h1:=hlt i hi
  have h2:=hlt j hj
  rw [he] at h1
  exact (List.getElem?_inj hi hnd).1 (h1.trans h2.symm)
 let J:Junk:=⟨fun i k=>(((fr::frs)[i]?).bind fun g=>g.tmps.toList[k]?).getD undef,fun j k=>((β (f j)).bind fun l=>match w.heap[l.blk]? with | some (.loop r)=>r.tmps.toList[k]? | _=>none).getD undef⟩
 have hent:∀ j e,(qom J.hp C.heap 0)[j]? = some e->∃ E:HP,C.heap[j]? = some E/\e=E.fill (J.hp j):=fun j e he=>by
  rw [qtw,Nat.zero_add] at he
  cases hE:C.heap[j]? with
  | none=>rw [hE] at he; cases he
  | some E=>rw [hE] at he; exact ⟨E,rfl,(Option.some.inj he).symm⟩
 have hjl:∀ j E,C.heap[j]? = some E->j<names.length:=fun j E h=>by rw [hlen]; exact (List.getElem?_eq_some_iff.1 h).1
 refine ⟨J,⟨fun n=>β (f n),fr,frs,w,rfl,?_,⟨⟨?_,?_,?_,hH.keep⟩,?_⟩,⟨?_,?_⟩,hl⟩⟩
 . refine qho rfl hFs hgf fun i g hi k x hk => ?_
   show (((fr::frs)[0+i]?).bind fun g=>g.tmps.toList[k]?).getD undef=x
   rw [Nat.zero_add,hi]
   show (g.tmps.toList[k]?).getD undef=x
   rw [hk]; rfl
 . intro j e he
   obtain ⟨E,hE,rfl⟩:=hent j e he
   have hg:=hgh j E hE
   have hold:=hH.entries (f j)
   cases E with
   | ent E =>
     cases E with
     | own c wh el =>
       obtain ⟨c0,h1,hi⟩:=hg
       obtain ⟨l,vs,rest,lo,hi2,hl2,h0,hc,hh,hz,hw,hcap⟩:=hold _ h1
       exact ⟨l,vs,rest,lo,hi2,hl2,h0,Cells.den_ren f (hi _ _ hc),hh,hz,hw,hcap⟩
     | row c =>
       obtain ⟨c0,h1,hi⟩:=hg
       obtain ⟨l,vs,hl2,hc,hx⟩:=hold _ h1
       exact ⟨l,vs,hl2,Cells.den_ren f (hi _ _ hc),hx⟩
     | loop=>exact hg.elim
     | deferred ds =>
       obtain ⟨l,ds',hl2,hd,hh⟩:=hold _ hg
       refine ⟨l,ds',hl2,?_,hh⟩
       cases ds with
       | none=>exact hd
       | some ds =>
         have hd:(SD.denL β (ds.map (SD.ren f))).map some=some ds':=hd
         rw [SD.denL_ren] at hd; exact hd
     | gone=>trivial
     | obj o =>
       obtain ⟨o0,h1,hi⟩:=hg
       obtain ⟨l,x,hl2,h0,hd,hh⟩:=hold _ h1
       refine ⟨l,x,hl2,h0,?_,hh⟩
       rw [← SObj.den_ren]
       exact hi _ _ hd
   | loop st p g T ps a b d =>
     obtain ⟨T0,h1,hT⟩:=hg
     obtain ⟨l,ld,Ts,hl2,hd,hTs,hh⟩:=hold _ h1
     refine ⟨l,ld,Ts,hl2,hd,?_,hh⟩
     refine q5m rfl hTs hT fun k x hk => ?_
     show ((β (f j)).bind fun l=>_).getD undef=x
     rw [hl2]
     simp only [Option.bind_some,hh,Nat.zero_add,hk]
     rfl
 . intro i j e e' l l' hi hj ho ho' hij hl1 hl2
   obtain ⟨E,hE,rfl⟩:=hent i e hi
   obtain ⟨E',hE',rfl⟩:=hent j e' hj
   obtain ⟨e0,h1,h2⟩:=HP.owned_fill (hgh i E hE) ho
   obtain ⟨e1,h3,h4⟩:=HP.owned_fill (hgh j E' hE') ho'
   exact hH.sep (f i) (f j) e0 e1 l l' h1 h3 h2 h4 (fun he=>hij (hinj i j (hjl i E hE) (hjl j E' hE') he)) hl1 hl2
 . intro j e l he ho hl1
   obtain ⟨E,hE,rfl⟩:=hent j e he
   obtain ⟨e0,h1,h2⟩:=HP.owned_fill (hgh j E hE) ho
   exact hH.fresh (f j) e0 l h1 h2 hl1
 . intro n hn
   have hn:(qom J.hp C.heap 0).length<=n:=hn
   rw [qsq,← hlen] at hn
   show β (f n)=none
   rw [hge n hn]
   exact hH.bound _ (Nat.le_add_right _ _)
 . intro g nm hg
   obtain ⟨l,h1,h2⟩:=hG.glob g nm hg
   exact ⟨l,by show β (f nm)=some l; rw [hid nm (hB.glob g nm hg)]; exact h1,h2⟩
 . intro n l hn
   show β (f n)=some l
   by_cases hk:n<k0
   . rw [hid n hk]; exact hG.fix n l hn
   . rw [hB.fix n (by omega)] at hn; cases hn
def qnl {A:Type} (k0:Nat) (C:A->Cut) (Q:A->Prop) (s:SS):Prop:=∀ B m,BaseOK k0 B->MRel B s m->∃ a J,Q a/\MRel B ((C a).fill J) m
theorem quu {A:Type} {k0:Nat} {C:A->Cut} {Q:A->Prop} {s:SS} (a:A) (hq:Q a) (names:List Nat) (h:Gen k0 s (C a) names):qnl k0 C Q s :=
 fun _ _ hB hM=>let ⟨J,hJ⟩:=jgo hB h hM; ⟨a,J,hq,hJ⟩
def Cfg.at (c:Cfg) (st:Option (Nat × Nat)):Cfg:={ P:=c.P,glob:=c.glob,sums:=c.sums,stopAt:=st }
theorem CfgOK.at {c:Cfg} (hc:CfgOK c) (st:Option (Nat × Nat)):CfgOK (c.at st):=⟨hc.prog,hc.sums⟩
theorem jtd {c:Cfg} (hc:CfgOK c) {B:Base} {k0:Nat} (hB:BaseOK k0 B) (hP:B.P=c.P) (hgl:B.glob=c.glob) {A:Type} (C:A->Cut) (OK:A->Prop) (μ:A->Nat) {D:SV->List SO->Prop}
  (hs:∀ a,OK a->∀ J,∃ st n,(sim1 (c.at st) n ((C a).fill J)).Ob D (qnl k0 C fun a'=>OK a'/\μ a'<μ a)) :
  ∀ (k:Nat) (a:A) (J:Junk) (m:Machine),μ a<k->OK a->MRel B ((C a).fill J) m->∃ m' v H,Steps B.P m m'/\D v H/\DoneRel B v H m':=by
 intro k
 induction k with
 | zero=>intro a J m h; omega
 | succ k ih =>
   intro a J m hk ha hM
   obtain ⟨st,n,hs'⟩:=hs a ha J
   obtain ⟨m1,hst,⟨v,H,hD,hdone⟩ | ⟨s,hS,hM1⟩⟩:=qf8 (B:=B) (hc.at st) hP hgl hM hs'
   . exact ⟨m1,v,H,hst,hD,hdone⟩
   . obtain ⟨a',J',⟨ha',hμ⟩,hM2⟩:=hS B m1 hB hM1
     obtain ⟨m2,v,H,hst2,hD,hdone⟩:=ih a' J' m1 (by omega) ha' hM2
     exact ⟨m2,v,H,hst.trans hst2,hD,hdone⟩
def Runs (c:Cfg) (f:FuncId) (args:List SV) (H:List SO) (D:SV->List SO->Prop):Prop :=
 (∃ fn,c.P.funcs[f]? = some fn/\fn.body.isSome=true)/\∀ (O:Nat->Prop) (w0 w:World) (β:Val) (vs:List Value),HeapRel c.P O w0 β H w->GlobRel c.glob β->SV.denL β args=some vs->Calls c.P f vs.toArray w (Came c.P O w0 β D)
theorem jud {c:Cfg} (hc:CfgOK c) {A:Type} (C:A->Cut) (OK:A->Prop) (μ:A->Nat) {D:SV->List SO->Prop} {f:FuncId} {args:List SV} {H:List SO} (hgl:∀ g nm,c.glob g=some nm->nm<H.length)
  (h0:∃ st n,(qca (c.at st) n f args H).Ob D (qnl H.length C OK))
  (hs:∀ a,OK a->∀ J,∃ st n,(sim1 (c.at st) n ((C a).fill J)).Ob D (qnl H.length C fun a'=>OK a'/\μ a'<μ a)):Runs c f args H D:=by
 obtain ⟨st0,n0,h0⟩:=h0
 unfold qca at h0
 cases hg:q7g (c.at st0).P f args with
 | none=>rw [hg] at h0; exact h0.elim
 | some g =>
   rw [hg] at h0
   refine ⟨qnn hg,fun O w0 w β vs hH hG ha cs => ?_⟩
   have hB:BaseOK H.length ⟨c.P,c.glob,O,w0,cs,f,β⟩:=⟨hH.bound,hgl⟩
   have hend:∀ m v H',Steps c.P (lone (Frame.enter c.P f vs.toArray .normal) cs w) m->D v H'->DoneRel ⟨c.P,c.glob,O,w0,cs,f,β⟩ v H' m ->
     ∃ e w' b,Came c.P O w0 β D e w'/\Comes c.P (lone (Frame.enter c.P f vs.toArray .normal) cs w) (lone b cs w') e/\b.fn=f/\b.leaving c.P w' e:=by
    intro m v H' hst hD hdone
    obtain ⟨β',fr,x,w',rfl,hfn,hleave,hv,hH',hG'⟩:=hdone.ex
    exact ⟨.returned x,w',fr,⟨v,H',x,β',rfl,hD,hG'.fix,hv,hH'⟩,hst,hfn,hleave⟩
   obtain ⟨m1,hst,⟨v,H',hD,hdone⟩ | ⟨s,hS,hM1⟩⟩:=qmr (B:=⟨c.P,c.glob,O,w0,cs,f,β⟩) (hc.at st0) rfl rfl n0 _ _ (qew (c:=c) hH hG ha hg cs) h0
   . exact hend m1 v H' hst hD hdone
   . obtain ⟨a,J,ha',hM2⟩:=hS _ _ hB hM1
     obtain ⟨m2,v,H',hst2,hD,hdone⟩:=jtd hc hB rfl rfl C OK μ hs (μ a+1) a J m1 (Nat.lt_succ_self _) ha' hM2
     exact hend m2 v H' (hst.trans hst2) hD hdone
end
noncomputable section
variable {α:Type}
def seeT (vs:List SV):List (Option SV)->List (Option SV) :=
 List.rec (motive:=fun _=>List (Option SV)->List (Option SV)) (fun _=>[]) (fun v _ ih T=>List.rec (motive:=fun _=>List (Option SV)) (some v::ih []) (fun o r _=>optC o none (fun _=>some v)::ih r) T) vs
def seeF (s:SF) (p:SP):SP:=⟨s.fn,seeT s.tmps p.tmps,s.todo,s.defers,s.roundOf⟩
def qz0 (ss:List SF):List SP->List SP :=
 List.rec (motive:=fun _=>List SP->List SP) (fun _=>[]) (fun s _ ih ps=>List.rec (motive:=fun _=>List SP) (⟨s.fn,seeT s.tmps [],s.todo,s.defers,s.roundOf⟩::ih []) (fun p r _=>seeF s p::ih r) ps) ss
def seeL (e:SO) (T:List (Option SV)):HP:=SO.rec (motive:=fun _=>HP) (fun c w el=>.ent (.own c w el)) (fun c=>.ent (.row c)) (fun s p f T0 ps a b d=>.loop s p f (seeT T0 T) ps a b d) (fun ds=>.ent (.deferred ds)) (.ent .gone) (fun o=>.ent (.obj o)) e
def quw (e:SO):Bool:=SO.rec (motive:=fun _=>Bool) (fun _ _ _=>false) (fun _=>false) (fun _ _ _ _ _ _ _ _=>false) (fun _=>false) true (fun _=>false) e
def seeE (e:Option SO) (E:HP):Option HP:=HP.rec (motive:=fun _=>Option HP) (fun E0=>boolC (quw E0) (some (.ent .gone)) (optC e none fun e=>some (.ent e))) (fun _ _ _ T _ _ _ _=>optC e none fun e=>some (seeL e T)) E
def q38 (H:List SO) (names:List Nat):List HP->List (Option HP) :=
 List.rec (motive:=fun _=>List HP->List (Option HP)) (fun _=>[]) (fun n _ ih Es=>List.rec (motive:=fun _=>List (Option HP)) [] (fun E r _=>seeE (nth H n) E::ih r) Es) names
abbrev Seen:=List SP × Nat × List (Option HP)
def q1p (M:Cut) (names:List Nat) (s:SS):Seen:=(qz0 s.frames M.frames,lenN s.heap,q38 s.heap names M.heap)
def renT (f:Nat->Nat) (T:List (Option SV)):List (Option SV):=mapN (fun o=>optC o none fun v=>some (v.ren f)) T
def SP.ren (f:Nat->Nat) (p:SP):SP:=⟨p.fn,renT f p.tmps,mapN (SItem.ren f) p.todo,mapN (SD.ren f) p.defers,optC p.roundOf none fun n=>some (f n)⟩
def HP.ren (f:Nat->Nat) (E:HP):HP :=
 HP.rec (motive:=fun _=>HP) (fun e=>SO.rec (motive:=fun _=>HP) (fun c w el=>.ent (.own (c.ren f) w el)) (fun c=>.ent (.row (c.ren f))) (fun s p g T ps a b d=>.ent (.loop s p g T ps a b d)) (fun ds=>.ent (.deferred (optC ds none fun l=>some (mapN (SD.ren f) l)))) (.ent .gone) (fun o=>.ent (.obj (o.ren f))) e)
  (fun s p g T ps a b d=>.loop s p g (renT f T) ps a b (f d)) E
def qhb (names:List Nat) (N:Nat) (C:Cut):Seen:=(mapN (SP.ren (qjc names N)) C.frames,N,mapN (fun E=>some (E.ren (qjc names N))) C.heap)
def ImpT (f:Nat->Nat):List (Option SV)->List (Option SV)->Prop
 | some v::vs,some u::us=>v.Imp (u.ren f)/\ImpT f vs us
 | none::vs,none::us=>ImpT f vs us
 | [],[]=>True
 | _,_=>False
structure ImpF (f:Nat->Nat) (s p:SP):Prop where
 fn:s.fn=p.fn
 tmps:ImpT f s.tmps p.tmps
 todo:s.todo=p.todo.map (SItem.ren f)
 defers:s.defers=p.defers.map (SD.ren f)
 roundOf:s.roundOf=p.roundOf.map f
def qtj (f:Nat->Nat):List SP->List SP->Prop
 | s::ss,p::ps=>ImpF f s p/\qtj f ss ps
 | [],[]=>True
 | _,_=>False
def ImpE (f:Nat->Nat) (e:Option HP) (E:HP):Prop :=
 match E with
 | .ent (.own c w el)=>∃ c0,e=some (.ent (.own c0 w el))/\c0.Imp (c.ren f)
 | .ent (.row c)=>∃ c0,e=some (.ent (.row c0))/\c0.Imp (c.ren f)
 | .ent (.deferred ds)=>e=some (.ent (.deferred (ds.map (List.map (SD.ren f)))))
 | .ent (.obj o)=>∃ o0,e=some (.ent (.obj o0))/\o0.Imp (o.ren f)
 | .ent .gone=>True
 | .ent (.loop ..)=>False
 | .loop s p g T ps a b d=>∃ T0,e=some (.loop s p g T0 ps a b (f d))/\ImpT f T0 T
def qol (f:Nat->Nat):List (Option HP)->List HP->Prop
 | e::es,E::Es=>ImpE f e E/\qol f es Es
 | [],[]=>True
 | _,_=>False
theorem qck {f:Nat->Nat}:∀ {vs:List SV} {Tm T:List (Option SV)},ImpT f (seeT vs Tm) T->GenT f vs T
 | [],_,[],_=>trivial
 | [],_,_::_,h=>by cases h
 | v::vs,[],T,h=>by
   have h:ImpT f (some v::seeT vs []) T:=h
   cases T with
   | nil=>exact h.elim
   | cons u us=>cases u with
     | none=>exact h.elim
     | some u=>exact ⟨h.1,qck h.2⟩
 | v::vs,o::Tm,T,h=>by
   have h:ImpT f (optC o none (fun _=>some v)::seeT vs Tm) T:=h
   cases T with
   | nil=>cases o <;> exact h.elim
   | cons u us =>
     cases o with
     | none=>cases u with
       | none=>exact qck (Tm:=Tm) (T:=us) h
       | some u=>exact h.elim
     | some o=>cases u with
       | none=>exact h.elim
       | some u=>exact ⟨h.1,qck (Tm:=Tm) (T:=us) h.2⟩
theorem qxr {f:Nat->Nat}:∀ {ss:List SF} {pm ps:List SP},qtj f (qz0 ss pm) ps->qy0 f ss ps
 | [],_,[],_=>trivial
 | [],_,_::_,h=>by cases h
 | s::ss,[],ps,h=>by
   have h:qtj f (⟨s.fn,seeT s.tmps [],s.todo,s.defers,s.roundOf⟩::qz0 ss []) ps:=h
   cases ps with
   | nil=>exact h.elim
   | cons p ps =>
     obtain ⟨⟨h1,h2,h3,h4,h5⟩,hr⟩:=h
     exact ⟨⟨h1,qck h2,h3,h4,h5⟩,qxr hr⟩
 | s::ss,q::pm,ps,h=>by
   have h:qtj f (seeF s q::qz0 ss pm) ps:=h
   cases ps with
   | nil=>exact h.elim
   | cons p ps =>
     obtain ⟨⟨h1,h2,h3,h4,h5⟩,hr⟩:=h
     exact ⟨⟨h1,qck h2,h3,h4,h5⟩,qxr hr⟩
theorem jah {f:Nat->Nat} {e:Option SO} {Em E:HP} (h:ImpE f (seeE e Em) E):GenE f e E:=by
 have hent:∀ {e:Option SO} {e0:SO},e0≠.gone->(∀ s p g T ps a b d,e0≠.loop s p g T ps a b d)->seeE e Em=some (.ent e0)->e=some e0:=by
  intro e e0 hng hnl h
  cases Em with
  | ent Em =>
    have h:boolC (quw Em) (some (.ent .gone)) (optC e none fun e=>some (HP.ent e))=some (.ent e0):=h
    cases hb:quw Em with
    | true=>rw [hb] at h; exact absurd (HP.ent.inj (Option.some.inj h)).symm hng
    | false =>
      rw [hb] at h
      cases e with
      | none=>cases h
      | some e=>rw [(HP.ent.inj (Option.some.inj h))]
  | loop s p g T ps a b d =>
    cases e with
    | none=>cases h
    | some e =>
      have h:some (seeL e T)=some (HP.ent e0):=h
      have h:=Option.some.inj h
      cases e with
      | loop=>cases h
      | gone=>exact absurd (HP.ent.inj h).symm hng
      | own=>rw [← HP.ent.inj h]
      | row=>rw [← HP.ent.inj h]
      | deferred=>rw [← HP.ent.inj h]
      | obj=>rw [← HP.ent.inj h]
 cases E with
 | ent E =>
   cases E with
   | own c w el=>obtain ⟨c0,h1,h2⟩:=h; exact ⟨c0,hent (by simp) (by simp) h1,h2⟩
   | row c=>obtain ⟨c0,h1,h2⟩:=h; exact ⟨c0,hent (by simp) (by simp) h1,h2⟩
   | deferred ds=>exact hent (by simp) (by simp) h
   | obj o=>obtain ⟨o0,h1,h2⟩:=h; exact ⟨o0,hent (by simp) (by simp) h1,h2⟩
   | gone=>trivial
   | loop=>exact h.elim
 | loop s p g T ps a b d =>
   obtain ⟨T0,h1,h2⟩:=h
   cases Em with
   | ent Em =>
     have h:boolC (quw Em) (some (.ent .gone)) (optC e none fun e=>some (HP.ent e))=some (.loop s p g T0 ps a b (f d)):=h1
     cases hb:quw Em with
     | true=>rw [hb] at h; cases h
     | false=>rw [hb] at h; cases e <;> cases h
   | loop s' p' g' Tm ps' a' b' d' =>
     cases e with
     | none=>cases h1
     | some e =>
       have h1:some (seeL e Tm)=some (HP.loop s p g T0 ps a b (f d)):=h1
       have h1:=Option.some.inj h1
       cases e with
       | loop s1 p1 g1 T1 ps1 a1 b1 d1 =>
         have h1:HP.loop s1 p1 g1 (seeT T1 Tm) ps1 a1 b1 d1=.loop s p g T0 ps a b (f d):=h1
         injection h1 with e1 e2 e3 e4 e5 e6 e7 e8
         subst e1 e2 e3 e4 e5 e6 e7 e8
         exact ⟨T1,rfl,qck h2⟩
       | own=>cases h1
       | row=>cases h1
       | deferred=>cases h1
       | gone=>cases h1
       | obj=>cases h1
theorem qlz {f:Nat->Nat} {H:List SO}:∀ {names:List Nat} {Em Es:List HP},qol f (q38 H names Em) Es->Em.length=names.length->∀ (j:Nat) (E:HP) (n:Nat),Es[j]? = some E->names[j]? = some n->GenE f H[n]? E
 | [],_,[],_,_,_,_,_,h,_=>by simp at h
 | [],_,_::_,h,_,_,_,_,_,_=>h.elim
 | n::names,[],_,_,hl,_,_,_,_,_=>by simp at hl
 | n::names,Em::Ems,Es,h,hl,j,E,m,hE,hm=>by
   have h:qol f (seeE (nth H n) Em::q38 H names Ems) Es:=h
   cases Es with
   | nil=>exact h.elim
   | cons E0 Es =>
     cases j with
     | zero =>
       simp at hE hm
       subst hE hm
       have:=jah h.1
       rwa [qga] at this
     | succ j=>exact qlz h.2 (by simpa using hl) j E m (by simpa using hE) (by simpa using hm)
theorem q2p (f:Nat->Nat):∀ T:List (Option SV),ImpT f (renT f T) T
 | []=>trivial
 | some _::T=>⟨.refl _,q2p f T⟩
 | none::T=>q2p f T
theorem q6m (f:Nat->Nat):∀ ps:List SP,qtj f (mapN (SP.ren f) ps) ps
 | []=>trivial
 | p::ps=>⟨⟨rfl,q2p f _,by show mapN _ _=_; rw [qwa],by show mapN _ _=_; rw [qwa],by show optC p.roundOf none _=_; cases p.roundOf <;> rfl⟩,q6m f ps⟩
theorem jbh (f:Nat->Nat) (E:HP) (h:∀ s p g T ps a b d,E≠.ent (.loop s p g T ps a b d)):ImpE f (some (E.ren f)) E:=by
 cases E with
 | ent e =>
   cases e with
   | own c w el=>exact ⟨_,rfl,.refl _⟩
   | row c=>exact ⟨_,rfl,.refl _⟩
   | deferred ds =>
     show some (HP.ent (.deferred (optC ds none fun l=>some (mapN (SD.ren f) l))))=_
     cases ds with
     | none=>rfl
     | some l=>rw [optC_some,qwa]; rfl
   | gone=>trivial
   | obj o=>exact ⟨_,rfl,fun _ _ h=>h⟩
   | loop=>exact absurd rfl (h _ _ _ _ _ _ _ _)
 | loop s p g T ps a b d=>exact ⟨_,rfl,q2p f T⟩
def qlb (E:HP):Bool:=HP.rec (motive:=fun _=>Bool) (fun e=>SO.rec (motive:=fun _=>Bool) (fun _ _ _=>true) (fun _=>true) (fun _ _ _ _ _ _ _ _=>false) (fun _=>true) true (fun _=>true) e) (fun _ _ _ _ _ _ _ _=>true) E
theorem q7m (f:Nat->Nat):∀ Es:List HP,allN qlb Es=true->qol f (mapN (fun E=>some (E.ren f)) Es) Es
 | [],_=>trivial
 | E::Es,h=>by
   have h':=qvm _ _ h
   refine ⟨jbh f E fun s p g T ps a b d he => ?_,q7m f Es ?_⟩
   . have:=h' E List.mem_cons_self
     rw [he] at this; cases this
   . have h:boolC (qlb E) (allN qlb Es) false=true:=h
     cases hb:qlb E with
     | true=>rw [hb] at h; exact h
     | false=>rw [hb] at h; cases h
def q32 (l:List Nat):Bool:=List.rec (motive:=fun _=>Bool) true (fun a r ih=>boolC (memN a r) false ih) l
def q48 (l:List Nat):Nat->Nat->Bool:=List.rec (motive:=fun _=>Nat->Nat->Bool) (fun k i=>Nat.ble k i) (fun a _ ih k i=>boolC (Nat.ble k i) true (boolC (Nat.beq a i) (ih k (Nat.succ i)) false)) l
def qvb (k0:Nat) (names:List Nat) (M C:Cut):Bool:=boolC (q32 names) (boolC (q48 names k0 0) (boolC (Nat.beq (lenN names) (lenN C.heap)) (Nat.beq (lenN names) (lenN M.heap)) false) false) false
theorem q5t:∀ l:List Nat,q32 l=true->l.Nodup
 | [],_=>by simp
 | a::r,h=>by
   have h:boolC (memN a r) false (q32 r)=true:=h
   cases hm:memN a r with
   | true=>rw [hm] at h; cases h
   | false =>
     rw [hm] at h
     refine List.nodup_cons.2 ⟨fun hin => ?_,q5t r h⟩
     rw [memN_iff.2 hin] at hm; cases hm
theorem qvw:∀ (l:List Nat) (k i:Nat),q48 l k i=true->∀ j,i+j<k->l[j]? = some (i+j)
 | [],k,i,h,j,hj=>by
   have:=Nat.le_of_ble_eq_true (show Nat.ble k i=true from h)
   omega
 | a::r,k,i,h,j,hj=>by
   have h:boolC (Nat.ble k i) true (boolC (Nat.beq a i) (q48 r k (i+1)) false)=true:=h
   cases hk:Nat.ble k i with
   | true=>have:=Nat.le_of_ble_eq_true hk; omega
   | false =>
     rw [hk,boolC_false] at h
     cases ha:Nat.beq a i with
     | false=>rw [ha] at h; cases h
     | true =>
       rw [ha] at h
       have:=Nat.eq_of_beq_eq_true ha
       subst this
       cases j with
       | zero=>rfl
       | succ j =>
         have:=qvw r k (a+1) h j (by omega)
         rw [List.getElem?_cons_succ,this]
         congr 1; omega
theorem quj {b:Bool} {t:Bool} (h:boolC b t false=true):b=true/\t=true:=by cases b <;> first | exact ⟨rfl,h⟩ | cases h
theorem qvu {k0:Nat} {s:SS} {C M:Cut} {names:List Nat} {F:List SP} {N:Nat} {es:List (Option HP)} (hv:q1p M names s=(F,N,es)) (hn:qvb k0 names M C=true) (hF:qtj (qjc names N) F C.frames) (hE:qol (qjc names N) es C.heap):Gen k0 s C names:=by
 obtain ⟨h1,h2⟩:=Prod.mk.inj (show (_,_,_)=(F,N,es) from hv)
 obtain ⟨h2,h3⟩:=Prod.mk.inj h2
 rw [qva] at h2
 obtain ⟨n1,n2⟩:=quj hn
 obtain ⟨n2,n3⟩:=quj n2
 obtain ⟨n3,n4⟩:=quj n3
 have l1:=Nat.eq_of_beq_eq_true n3
 have l2:=Nat.eq_of_beq_eq_true n4
 rw [qva,qva] at l1 l2
 subst h2
 refine ⟨fun j hj => ?_,q5t _ n1,l1,?_,fun j E hj => ?_⟩
 . have:=qvw names k0 0 n2 j (by omega)
   rwa [Nat.zero_add] at this
 . rw [← h1] at hF; exact qxr hF
 . rw [← h3] at hE
   have hlt:j<names.length:=by rw [l1]; exact (List.getElem?_eq_some_iff.1 hj).1
   exact qlz hE l2.symm j E _ hj (qkz hlt)
theorem jch {k0:Nat} {s:SS} {C M:Cut} {names:List Nat} {N:Nat} (hv:q1p M names s=qhb names N C) (hn:boolC (qvb k0 names M C) (allN qlb C.heap) false=true):Gen k0 s C names :=
 qvu hv (quj hn).1 (q6m _ _) (q7m _ _ (quj hn).2)
def qhi (i:Nat) (E:HP) (V:Seen):Seen:=(V.1,V.2.1,setN V.2.2 i (some E))
theorem qyr {f:Nat->Nat}:∀ {es:List (Option HP)} {Es:List HP} (i:Nat) {E:HP},qol f es Es->(∀ E0,Es[i]? = some E0->ImpE f (some E) E0)->qol f (setN es i (some E)) Es
 | [],[],_,_,_,_=>trivial
 | e::es,E0::Es,0,E,h,h0=>⟨h0 E0 rfl,h.2⟩
 | e::es,E0::Es,i+1,E,h,h0=>⟨h.1,qyr i h.2 fun E1 h1=>h0 E1 (by simpa using h1)⟩
 | [],_::_,_,_,h,_=>h.elim
 | _::_,[],_,_,h,_=>h.elim
theorem jho {k0:Nat} {s:SS} {C M:Cut} {names:List Nat} {N i:Nat} {E:HP} (hv:q1p M names s=qhi i E (qhb names N C)) (hn:boolC (qvb k0 names M C) (allN qlb C.heap) false=true) (hE:∀ E0,C.heap[i]? = some E0->ImpE (qjc names N) (some E) E0):Gen k0 s C names :=
 qvu hv (quj hn).1 (q6m _ _) (qyr i (q7m _ _ (quj hn).2) hE)
def setF (p:SP) (j:Nat) (v:SV):SP:=⟨p.fn,setN p.tmps j (some v),p.todo,p.defers,p.roundOf⟩
def qvj (i j:Nat) (v:SV) (V:Seen):Seen:=(optC (nth V.1 i) V.1 fun p=>setN V.1 i (setF p j v),V.2.1,V.2.2)
def q0b (ms:List (Nat × Nat × SV)) (es:List (Nat × HP)) (V:Seen):Seen :=
 List.rec (motive:=fun _=>Seen) (List.rec (motive:=fun _=>Seen) V (fun m _ ih=>qvj m.1 m.2.1 m.2.2 ih) ms) (fun e _ ih=>qhi e.1 e.2 ih) es
theorem qwu {f:Nat->Nat}:∀ {vs us:List (Option SV)} (j:Nat) {v:SV},ImpT f vs us->(∀ u,us[j]? = some u->∃ w,u=some w/\v.Imp (w.ren f))->ImpT f (setN vs j (some v)) us
 | some _::vs,some u::us,0,v,h,h0=>let ⟨w,e,hw⟩:=h0 _ rfl; ⟨by cases e; exact hw,h.2⟩
 | none::vs,none::us,0,v,h,h0=>let ⟨_,e,_⟩:=h0 _ rfl; by cases e
 | some _::vs,some u::us,j+1,v,h,h0=>⟨h.1,qwu j h.2 fun w hw=>h0 w (by simpa using hw)⟩
 | none::vs,none::us,j+1,v,h,h0=>qwu (vs:=vs) (us:=us) j h fun w hw=>h0 w (by simpa using hw)
 | [],[],_,_,_,_=>trivial
 | some _::_,none::_,_,_,h,_=>h.elim
 | none::_,some _::_,_,_,h,_=>h.elim
 | [],_::_,_,_,h,_=>h.elim
 | some _::_,[],_,_,h,_=>False.elim h
 | none::_,[],_,_,h,_=>False.elim h
theorem qmz {f:Nat->Nat}:∀ {ss ps:List SP} (i j:Nat) {v:SV} {s:SP},qtj f ss ps->ss[i]? = some s->(∀ p u,ps[i]? = some p->p.tmps[j]? = some u->∃ w,u=some w/\v.Imp (w.ren f))->qtj f (setN ss i (setF s j v)) ps
 | s0::ss,p::ps,0,j,v,s,h,hs,h0=>by
   simp at hs; subst hs
   obtain ⟨⟨h1,h2,h3,h4,h5⟩,hr⟩:=h
   exact ⟨⟨h1,qwu j h2 fun u hu=>h0 p u rfl hu,h3,h4,h5⟩,hr⟩
 | s0::ss,p::ps,i+1,j,v,s,h,hs,h0=>⟨h.1,qmz i j h.2 (by simpa using hs) fun q u hq hu=>h0 q u (by simpa using hq) hu⟩
 | [],_,_,_,_,_,_,hs,_=>by simp at hs
 | _::_,[],_,_,_,_,h,_,_=>h.elim
theorem jio {k0:Nat} {s:SS} {C M:Cut} {names:List Nat} {N:Nat} (ms:List (Nat × Nat × SV)) (es:List (Nat × HP)) (hv:q1p M names s=q0b ms es (qhb names N C)) (hn:boolC (qvb k0 names M C) (allN qlb C.heap) false=true)
  (hT:∀ m∈ms,∀ p u,C.frames[m.1]? = some p->p.tmps[m.2.1]? = some u->∃ w,u=some w/\m.2.2.Imp (w.ren (qjc names N))) (hE:∀ e∈es,∀ E0,C.heap[e.1]? = some E0->ImpE (qjc names N) (some e.2) E0):Gen k0 s C names:=by
 have key:∀ ms:List (Nat × Nat × SV),(∀ m∈ms,∀ p u,C.frames[m.1]? = some p->p.tmps[m.2.1]? = some u->∃ w,u=some w/\m.2.2.Imp (w.ren (qjc names N))) ->
   qtj (qjc names N) (List.rec (motive:=fun _=>Seen) (qhb names N C) (fun m _ ih=>qvj m.1 m.2.1 m.2.2 ih) ms:Seen).1 C.frames/\(List.rec (motive:=fun _=>Seen) (qhb names N C) (fun m _ ih=>qvj m.1 m.2.1 m.2.2 ih) ms:Seen).2=(qhb names N C).2:=by
  intro ms
  induction ms with
  | nil=>intro _; exact ⟨q6m _ _,rfl⟩
  | cons m ms ih =>
    intro h
    obtain ⟨h1,h2⟩:=ih fun x hx=>h x (List.mem_cons_of_mem _ hx)
    generalize hV:(List.rec (motive:=fun _=>Seen) (qhb names N C) (fun m _ ih=>qvj m.1 m.2.1 m.2.2 ih) ms:Seen)=V at h1 h2
    show qtj _ (qvj m.1 m.2.1 m.2.2 (List.rec (motive:=fun _=>Seen) (qhb names N C) (fun m _ ih=>qvj m.1 m.2.1 m.2.2 ih) ms:Seen)).1 _/\(qvj m.1 m.2.1 m.2.2 (List.rec (motive:=fun _=>Seen) (qhb names N C) (fun m _ ih=>qvj m.1 m.2.1 m.2.2 ih) ms:Seen)).2=_
    rw [hV]
    refine ⟨?_,h2⟩
    show qtj _ (optC (nth V.1 m.1) V.1 fun p=>setN V.1 m.1 (setF p m.2.1 m.2.2)) _
    cases hp:nth V.1 m.1 with
    | none=>exact h1
    | some p =>
      rw [qga] at hp
      exact qmz m.1 m.2.1 h1 hp fun q u hq hu=>h m List.mem_cons_self q u hq hu
 obtain ⟨k1,k2⟩:=key ms hT
 have key2:∀ es:List (Nat × HP),(∀ e∈es,∀ E0,C.heap[e.1]? = some E0->ImpE (qjc names N) (some e.2) E0)->∀ V:Seen,V.2=(qhb names N C).2 ->
   (List.rec (motive:=fun _=>Seen) V (fun e _ ih=>qhi e.1 e.2 ih) es:Seen).1=V.1/\(List.rec (motive:=fun _=>Seen) V (fun e _ ih=>qhi e.1 e.2 ih) es:Seen).2.1=N/\qol (qjc names N) (List.rec (motive:=fun _=>Seen) V (fun e _ ih=>qhi e.1 e.2 ih) es:Seen).2.2 C.heap:=by
  intro es
  induction es with
  | nil =>
    intro _ V hV
    refine ⟨rfl,?_,?_⟩
    . show V.2.1=N; rw [hV]; rfl
    . show qol _ V.2.2 _; rw [hV]; exact q7m _ _ (quj hn).2
  | cons e es ih =>
    intro h V hV
    obtain ⟨h1,h2,h3⟩:=ih (fun x hx=>h x (List.mem_cons_of_mem _ hx)) V hV
    exact ⟨h1,h2,qyr e.1 h3 (h e List.mem_cons_self)⟩
 obtain ⟨j1,j2,j3⟩:=key2 es hE _ k2
 unfold q0b at hv
 generalize (List.rec (motive:=fun _=>Seen) (List.rec (motive:=fun _=>Seen) (qhb names N C) (fun m _ ih=>qvj m.1 m.2.1 m.2.2 ih) ms) (fun e _ ih=>qhi e.1 e.2 ih) es:Seen)=V at hv j1 j2 j3
 obtain ⟨F,N',es'⟩:=V
 have j2:N'=N:=j2
 subst j2
 exact qvu hv (quj hn).1 (by rw [show F=_ from j1]; exact k1) j3
abbrev OutL:=List Prop × Option ((SV × List (Option SO)) ⊕ Seen)
def outL (js:List Nat) (M:Cut) (names:List Nat) (t:Tree):List Bool->(Nat->Nat->Nat)->OutL :=
 Tree.rec (motive:=fun _=>List Bool->(Nat->Nat->Nat)->OutL) (fun v H _ _=>([],some (.inl (v,mapN (fun j=>nth H j) js)))) (fun s _ _=>([],some (.inr (q1p M names s)))) (fun p _ ih ds z=>(p::(ih ds z).1,(ih ds z).2))
  (fun b _ _ iht ihf ds z=>List.rec (motive:=fun _=>OutL) ([],none) (fun d r _=>((b=d)::(boolC d (iht r z) (ihf r z)).1,(boolC d (iht r z) (ihf r z)).2)) ds) (fun _ _ _=>([],none)) (fun _ ih ds z=>ih (z 0) ds fun i=>z (i+1)) t
theorem q0s {js:List Nat} {M:Cut} {names:List Nat} {t:Tree} {ds:List Bool} {ps:(Nat->Nat->Nat)->List Prop} {r:(Nat->Nat->Nat)->(SV × List (Option SO)) ⊕ Seen} (h:∀ z,outL js M names t ds z=(ps z,some (r z))) (hp:∀ z,∀ p∈ps z,p) {D:SV->List SO->Prop} {S:SS->Prop}
  (hD:∀ z v es,r z=.inl (v,es)->∀ H:List SO,js.map (fun j=>H[j]?)=es->D v H) (hS:∀ z V,r z=.inr V->∀ s,q1p M names s=V->S s):t.Ob D S:=by
 have z0:Nat->Nat->Nat:=fun _ _=>0
 induction t generalizing ps r ds with
 | done v' H =>
   have h':([],some (.inl (v',mapN (fun j=>nth H j) js)))=(ps z0,some (r z0)):=h z0
   have h1:=Option.some.inj (Prod.mk.inj h').2
   refine hD z0 v' _ h1.symm H ?_
   rw [qwa]
   exact List.map_congr_left fun j _=>(qga H j).symm
 | stop s =>
   have h':([],some (.inr (q1p M names s)))=(ps z0,some (r z0)):=h z0
   have h1:=Option.some.inj (Prod.mk.inj h').2
   exact hS z0 _ h1.symm s rfl
 | need p t ih =>
   have h':∀ z,(p::(outL js M names t ds z).1,(outL js M names t ds z).2)=(ps z,some (r z)):=h
   refine ⟨?_,ih (ds:=ds) (ps:=fun z=>(outL js M names t ds z).1) (r:=r) (fun z=>by rw [← (Prod.mk.inj (h' z)).2]) (fun z q hq=>hp z q ?_) hD hS⟩
   . have:=(Prod.mk.inj (h' z0)).1
     exact hp z0 p (by rw [← this]; exact List.mem_cons_self)
   . rw [← (Prod.mk.inj (h' z)).1]; exact List.mem_cons_of_mem _ hq
 | fork b t f iht ihf =>
   cases ds with
   | nil=>cases (Prod.mk.inj (show ([],none)=(ps z0,some (r z0)) from h z0)).2
   | cons d rs =>
     have h':∀ z,((b=d)::(boolC d (outL js M names t rs z) (outL js M names f rs z)).1,(boolC d (outL js M names t rs z) (outL js M names f rs z)).2)=(ps z,some (r z)):=h
     have hb:b=d:=hp z0 _ (by rw [← (Prod.mk.inj (h' z0)).1]; exact List.mem_cons_self)
     have hq:∀ z,∀ q∈(boolC d (outL js M names t rs z) (outL js M names f rs z)).1,q:=fun z q hq=>hp z q (by rw [← (Prod.mk.inj (h' z)).1]; exact List.mem_cons_of_mem _ hq)
     cases d with
     | true=>exact ⟨fun _=>iht (ds:=rs) (ps:=fun z=>(outL js M names t rs z).1) (r:=r) (fun z=>by rw [← (Prod.mk.inj (h' z)).2]; rfl) hq hD hS,fun hf=>by rw [hf] at hb; cases hb⟩
     | false=>exact ⟨fun ht=>(by rw [ht] at hb; cases hb),fun _=>ihf (ds:=rs) (ps:=fun z=>(outL js M names f rs z).1) (r:=r) (fun z=>by rw [← (Prod.mk.inj (h' z)).2]; rfl) hq hD hS⟩
 | stuck=>cases (Prod.mk.inj (show ([],none)=(ps z0,some (r z0)) from h z0)).2
 | any k ih =>
   have h':∀ z,outL js M names (k (z 0)) ds (fun i=>z (i+1))=(ps z,some (r z)):=h
   intro y
   let c:(Nat->Nat->Nat)->Nat->Nat->Nat:=fun z i=>Nat.rec (motive:=fun _=>Nat->Nat) y (fun j _=>z j) i
   exact ih y (ds:=ds) (ps:=fun z=>ps (c z)) (r:=fun z=>r (c z)) (fun z=>h' (c z)) (fun z=>hp (c z)) (fun z=>hD (c z)) (fun z=>hS (c z))
theorem qnz {A:Type} {k0:Nat} {C:A->Cut} {Q:A->Prop} {js:List Nat} {M:Cut} {names:List Nat} {t:Tree} {ds:List Bool} {ps:List Prop} {N:Nat} {D:SV->List SO->Prop} (a:A) (hq:Q a)
  (h:∀ z,outL js M names t ds z=(ps,some (.inr (qhb names N (C a))))) (hn:boolC (qvb k0 names M (C a)) (allN qlb (C a).heap) false=true) (hp:∀ p∈ps,p):t.Ob D (qnl k0 C Q) :=
 q0s h (fun _=>hp) (fun _ v es h=>by cases h) fun _ V h s hv=>quu a hq names (jch (N:=N) (by cases h; exact hv) hn)
theorem q58 {A:Type} {k0:Nat} {C:A->Cut} {Q:A->Prop} {js:List Nat} {M:Cut} {names:List Nat} {t:Tree} {ds:List Bool} {ps:List Prop} {N i:Nat} {E:HP} {D:SV->List SO->Prop} (a:A) (hq:Q a)
  (h:∀ z,outL js M names t ds z=(ps,some (.inr (qhi i E (qhb names N (C a)))))) (hn:boolC (qvb k0 names M (C a)) (allN qlb (C a).heap) false=true) (hE:∀ E0,(C a).heap[i]? = some E0->ImpE (qjc names N) (some E) E0) (hp:∀ p∈ps,p):t.Ob D (qnl k0 C Q) :=
 q0s h (fun _=>hp) (fun _ v es h=>by cases h) fun _ V h s hv=>quu a hq names (jho (N:=N) (by cases h; exact hv) hn hE)
theorem qww {A:Type} {k0:Nat} {C:A->Cut} {Q:A->Prop} {js:List Nat} {M:Cut} {names:List Nat} {t:Tree} {ds:List Bool} {ps:List Prop} {N:Nat} {ms:List (Nat × Nat × SV)} {es:List (Nat × HP)} {D:SV->List SO->Prop} (a:A) (hq:Q a)
  (h:∀ z,outL js M names t ds z=(ps,some (.inr (q0b ms es (qhb names N (C a)))))) (hn:boolC (qvb k0 names M (C a)) (allN qlb (C a).heap) false=true)
  (hT:∀ m∈ms,∀ p u,(C a).frames[m.1]? = some p->p.tmps[m.2.1]? = some u->∃ w,u=some w/\m.2.2.Imp (w.ren (qjc names N))) (hE:∀ e∈es,∀ E0,(C a).heap[e.1]? = some E0->ImpE (qjc names N) (some e.2) E0) (hp:∀ p∈ps,p):t.Ob D (qnl k0 C Q) :=
 q0s h (fun _=>hp) (fun _ v es h=>by cases h) fun _ V h s hv=>quu a hq names (jio (N:=N) ms es (by cases h; exact hv) hn hT hE)
theorem q42 {js:List Nat} {M:Cut} {names:List Nat} {t:Tree} {ds:List Bool} {ps:List Prop} {v:SV} {es:List (Option SO)} {D:SV->List SO->Prop} {S:SS->Prop}
  (h:∀ z,outL js M names t ds z=(ps,some (.inl (v,es)))) (hp:∀ p∈ps,p) (hD:∀ H:List SO,js.map (fun j=>H[j]?)=es->D v H):t.Ob D S :=
 q0s h (fun _=>hp) (fun _ v' es' h=>by cases h; exact hD) fun _ V h=>by cases h
def qio {A:Type} (c:Cfg) (k0:Nat) (C:A->Cut) (Q:A->Prop) (D:SV->List SO->Prop) (s:SS):Prop:=∃ st n,(sim1 (c.at st) n s).Ob D (qnl k0 C Q)
theorem qjo {A:Type} {c:Cfg} {k0:Nat} {C:A->Cut} {Q:A->Prop} {D:SV->List SO->Prop} {s:SS} (st:Option (Nat × Nat)) (n:Nat) {M:Cut} {names:List Nat} {ds:List Bool} {ps:List Prop} {N:Nat} (a:A) (hq:Q a)
  (h:∀ z,outL [] M names (sim1 (c.at st) n s) ds z=(ps,some (.inr (qhb names N (C a))))) (hn:boolC (qvb k0 names M (C a)) (allN qlb (C a).heap) false=true) (hp:∀ p∈ps,p):qio c k0 C Q D s:=⟨st,n,qnz a hq h hn hp⟩
theorem qti {A:Type} {c:Cfg} {k0:Nat} {C:A->Cut} {Q:A->Prop} {D:SV->List SO->Prop} {s:SS} (st:Option (Nat × Nat)) (n:Nat) {M:Cut} {names js:List Nat} {ds:List Bool} {ps:List Prop} {v:SV} {es:List (Option SO)}
  (h:∀ z,outL js M names (sim1 (c.at st) n s) ds z=(ps,some (.inl (v,es)))) (hp:∀ p∈ps,p) (hD:∀ H:List SO,js.map (fun j=>H[j]?)=es->D v H):qio c k0 C Q D s:=⟨st,n,q42 h hp hD⟩
theorem qvc {A:Type} {c:Cfg} {k0:Nat} {C:A->Cut} {Q:A->Prop} {D:SV->List SO->Prop} {s:SS} (st:Option (Nat × Nat)) (n:Nat) {M:Cut} {names:List Nat} {ds:List Bool} {ps:List Prop} {N:Nat} {ms:List (Nat × Nat × SV)} {es:List (Nat × HP)} (a:A) (hq:Q a)
  (h:∀ z,outL [] M names (sim1 (c.at st) n s) ds z=(ps,some (.inr (q0b ms es (qhb names N (C a)))))) (hn:boolC (qvb k0 names M (C a)) (allN qlb (C a).heap) false=true)
  (hT:∀ m∈ms,∀ p u,(C a).frames[m.1]? = some p->p.tmps[m.2.1]? = some u->∃ w,u=some w/\m.2.2.Imp (w.ren (qjc names N))) (hE:∀ e∈es,∀ E0,(C a).heap[e.1]? = some E0->ImpE (qjc names N) (some e.2) E0) (hp:∀ p∈ps,p):qio c k0 C Q D s:=⟨st,n,qww a hq h hn hT hE hp⟩
def qzr {A:Type} (c:Cfg) (k0:Nat) (C:A->Cut) (Q:A->Prop) (D:SV->List SO->Prop) (f:FuncId) (args:List SV) (H:List SO):Prop:=∃ st n,(qca (c.at st) n f args H).Ob D (qnl k0 C Q)
theorem q3p {A:Type} {c:Cfg} {k0:Nat} {C:A->Cut} {Q:A->Prop} {D:SV->List SO->Prop} {f:FuncId} {args:List SV} {H:List SO} (st:Option (Nat × Nat)) (n:Nat) {M:Cut} {names:List Nat} {ds:List Bool} {ps:List Prop} {N:Nat} (a:A) (hq:Q a)
  (h:∀ z,outL [] M names (qca (c.at st) n f args H) ds z=(ps,some (.inr (qhb names N (C a))))) (hn:boolC (qvb k0 names M (C a)) (allN qlb (C a).heap) false=true) (hp:∀ p∈ps,p):qzr c k0 C Q D f args H:=⟨st,n,qnz a hq h hn hp⟩
theorem jvd {A:Type} {c:Cfg} {k0:Nat} {C:A->Cut} {Q:A->Prop} {D:SV->List SO->Prop} {f:FuncId} {args:List SV} {H:List SO} (st:Option (Nat × Nat)) (n:Nat) {M:Cut} {names:List Nat} {ds:List Bool} {ps:List Prop} {N i:Nat} {E:HP} (a:A) (hq:Q a)
  (h:∀ z,outL [] M names (qca (c.at st) n f args H) ds z=(ps,some (.inr (qhi i E (qhb names N (C a)))))) (hn:boolC (qvb k0 names M (C a)) (allN qlb (C a).heap) false=true) (hE:∀ E0,(C a).heap[i]? = some E0->ImpE (qjc names N) (some E) E0) (hp:∀ p∈ps,p):qzr c k0 C Q D f args H:=⟨st,n,q58 a hq h hn hE hp⟩
theorem qpg {A:Type} {c:Cfg} {k0:Nat} {C:A->Cut} {Q:A->Prop} {D:SV->List SO->Prop} {f:FuncId} {args:List SV} {H:List SO} (st:Option (Nat × Nat)) (n:Nat) {M:Cut} {names:List Nat} {ds:List Bool} {ps:List Prop} {N:Nat} {ms:List (Nat × Nat × SV)} {es:List (Nat × HP)} (a:A) (hq:Q a)
  (h:∀ z,outL [] M names (qca (c.at st) n f args H) ds z=(ps,some (.inr (q0b ms es (qhb names N (C a)))))) (hn:boolC (qvb k0 names M (C a)) (allN qlb (C a).heap) false=true)
  (hT:∀ m∈ms,∀ p u,(C a).frames[m.1]? = some p->p.tmps[m.2.1]? = some u->∃ w,u=some w/\m.2.2.Imp (w.ren (qjc names N))) (hE:∀ e∈es,∀ E0,(C a).heap[e.1]? = some E0->ImpE (qjc names N) (some e.2) E0) (hp:∀ p∈ps,p):qzr c k0 C Q D f args H:=⟨st,n,qww a hq h hn hT hE hp⟩
theorem jwd {A:Type} {c:Cfg} {k0:Nat} {C:A->Cut} {Q:A->Prop} {D:SV->List SO->Prop} {f:FuncId} {args:List SV} {H:List SO} (st:Option (Nat × Nat)) (n:Nat) {M:Cut} {names js:List Nat} {ds:List Bool} {ps:List Prop} {v:SV} {es:List (Option SO)}
  (h:∀ z,outL js M names (qca (c.at st) n f args H) ds z=(ps,some (.inl (v,es)))) (hp:∀ p∈ps,p) (hD:∀ H:List SO,js.map (fun j=>H[j]?)=es->D v H):qzr c k0 C Q D f args H:=⟨st,n,q42 h hp hD⟩
theorem qng {c:Cfg} (hc:CfgOK c) {A:Type} (C:A->Cut) (OK:A->Prop) (μ:A->Nat) {D:SV->List SO->Prop} {f:FuncId} {args:List SV} {H:List SO} (hgl:∀ g nm,c.glob g=some nm->nm<H.length)
  (h0:qzr c H.length C OK D f args H) (hs:∀ a,OK a->∀ J,qio c H.length C (fun a'=>OK a'/\μ a'<μ a) D ((C a).fill J)):Runs c f args H D:=jud hc C OK μ hgl h0 hs
def qah (t:Tree):List Bool->SS :=
 Tree.rec (motive:=fun _=>List Bool->SS) (fun _ _ _=>⟨[],[]⟩) (fun s _=>s) (fun _ _ ih ds=>ih ds) (fun _ _ _ iht ihf ds=>List.rec (motive:=fun _=>SS) ⟨[],[]⟩ (fun d r _=>boolC d (iht r) (ihf r)) ds) (fun _ _=>⟨[],[]⟩) (fun _ ih ds=>ih (fun _=>0) ds) t
def jxl (T:List (Option SV)) (l:List (Nat × SV)):List (Option SV):=List.rec (motive:=fun _=>List (Option SV)->List (Option SV)) (fun T=>T) (fun a _ ih T=>ih (setN T a.1 (some a.2))) l T
def jyl (s:SF) (l:List (Nat × SV)):SP:=⟨s.fn,jxl (repN none (lenN s.tmps)) l,s.todo,s.defers,s.roundOf⟩
def q2f (ss:List SF):List (List (Nat × SV))->List SP:=List.rec (motive:=fun _=>List (List (Nat × SV))->List SP) (fun _=>[]) (fun s _ ih ls=>List.rec (motive:=fun _=>List SP) (jyl s []::ih []) (fun l r _=>jyl s l::ih r) ls) ss
def bareL (e:Option SO) (l:List (Nat × SV)):HP:=optC e (.ent .gone) fun e=>SO.rec (motive:=fun _=>HP) (fun c w el=>.ent (.own c w el)) (fun c=>.ent (.row c)) (fun s p f T ps a b d=>.loop s p f (jxl (repN none (lenN T)) l) ps a b d) (fun ds=>.ent (.deferred ds)) (.ent .gone) (fun o=>.ent (.obj o)) e
theorem sum_runs {c:Cfg} {O:Nat->Prop} {w0 w:World} {β:Val} {H:List SO} {base:Nat} {f:FuncId} {vs:List Value} (hH:HeapRel0 c.P O w0 β H w)
  (I:Ifc) (hgl:∀ g j,c.glob g=some j->I.known j=true/\∃ l,β (I.big j)=some l/\l.blk=g/\l.off=0) (ha:SV.denL β (SV.renL I.big I.args)=some vs) (hI:I.Fits H) {r:SumRes} (keep:List Nat) (hk:∀ j∈keep,I.names.length<=j) (hkn:keep.Nodup)
  (hr:Runs c f I.args I.ents (I.Ends base keep r)):q4a c.P H β w base f vs r:=by
 refine qfw hH I hgl ha hI (q6b I.ents 0) keep (fun j c w el h=>(qdh _ _ _).2 ⟨j,c,w,el,by omega,h⟩) (fun j hj => ?_) hk hkn (qrj _ _) hr.1 fun hH' hG ha'=>(hr.2 _ _ _ _ _ hH' hG ha').mono fun e w' hcame => ?_
 . obtain ⟨i,c,w,el,h,h'⟩:=(qdh _ _ _).1 hj
   exact ⟨c,w,el,by rw [h,Nat.zero_add]; exact h'⟩
 . obtain ⟨v,H',x,β',he,h,hle,hv,hH2⟩:=hcame
   exact ⟨v,H',x,β',he,⟨h.val,h.uv,h.sets.length,h.sets.get,h.news.length,h.news.get⟩,hle,hv,hH2⟩
end
end Go.Sim
namespace Go.Proofs.YtcpafideogckmaaGreatDoor.Aes
noncomputable section
open Go.Sim
open Go.Proofs
variable {α:Type}
def q3b:Nat->Option Nat:=fun g=>boolC (Nat.beq g 3) (some 0) (boolC (Nat.beq g 4) (some 1) none)
def startL:List Nat:=[0x6a09e667,0xbb67ae85,0x3c6ef372,0xa54ff53a,0x510e527f,0x9b05688c,0x1f83d9ab,0x5be0cd19]
def constL:List Nat:=[
 0x428a2f98,0x71374491,0xb5c0fbcf,0xe9b5dba5,0x3956c25b,0x59f111f1,0x923f82a4,0xab1c5ed5,
 0xd807aa98,0x12835b01,0x243185be,0x550c7dc3,0x72be5d74,0x80deb1fe,0x9bdc06a7,0xc19bf174,
 0xe49b69c1,0xefbe4786,0x0fc19dc6,0x240ca1cc,0x2de92c6f,0x4a7484aa,0x5cb0a9dc,0x76f988da,
 0x983e5152,0xa831c66d,0xb00327c8,0xbf597fc7,0xc6e00bf3,0xd5a79147,0x06ca6351,0x14292967,
 0x27b70a85,0x2e1b2138,0x4d2c6dfc,0x53380d13,0x650a7354,0x766a0abb,0x81c2c92e,0x92722c85,
 0xa2bfe8a1,0xa81a664b,0xc24b8b70,0xc76c51a3,0xd192e819,0xd6990624,0xf40e3585,0x106aa070,
 0x19a4c116,0x1e376c08,0x2748774c,0x34b0bcb5,0x391c0cb3,0x4ed8aa4a,0x5b9cca4f,0x682e6ff3,
 0x748f82ee,0x78a5636f,0x84c87814,0x8cc70208,0x90befffa,0xa4506ceb,0xbef9a3f7,0xc67178f2]
abbrev W32:=BitVec 32
def wd (n:Nat):W32:=BitVec.ofNat 32 n
def wi (n:Nat):W32:=BitVec.ofInt 32 (Int.ofNat n)
def wx (l:List W32):List SV:=mapN (fun x=>.int .u32 (.b32 x)) l
def kx (k:IntKind) (l:List Nat):List SV:=mapN (fun n=>.int k (.lit (Int.ofNat n))) l
def qyc:List W32:=mapN wi startL
def constV':List W32:=mapN wi constL
def q3f:SO:=.row (.lst (kx .u32 startL))
def q4f:SO:=.row (.lst (kx .u32 constL))
def anyR:SO:=.row (.lst [])
def qpc (l:List SO):List SO:=q3f::q4f::anyR::anyR::l
theorem q0r {f:Nat->Nat} {e:Option SO} (h:quc e=true):∃ e',e=some e'/\qrb f anyR e':=by
 cases e with
 | none=>cases h
 | some e =>
   have hf:∀ c:Cells,c.Front ((Cells.lst []).ren f):=fun c β vs _=>⟨0,by rw [List.take_zero]; rfl⟩
   cases e with
   | own c w el=>exact ⟨_,rfl,qzh (.inr ⟨_,_,rfl⟩) (hf c)⟩
   | row c=>exact ⟨_,rfl,qzh (.inl rfl) (hf c)⟩
   | loop=>cases h
   | deferred=>cases h
   | gone=>cases h
   | obj=>cases h
theorem qxw (k:IntKind) (f:Nat->Nat):∀ xs,SV.renL f (kx k xs)=kx k xs
 | []=>rfl
 | x::xs=>by show _::SV.renL f (kx k xs)=_; rw [qxw k f xs]; rfl
theorem qii (k:IntKind) (p:Nat->Bool):∀ xs,SV.usesL p (kx k xs)=true
 | []=>rfl
 | x::xs=>by show (true && SV.usesL p (kx k xs))=true; rw [qii k p xs]; rfl
theorem q1r (f:Nat->Nat):∀ xs,SV.renL f (wx xs)=wx xs
 | []=>rfl
 | x::xs=>by show _::SV.renL f (wx xs)=_; rw [q1r f xs]; rfl
theorem q1s (p:Nat->Bool):∀ xs,SV.usesL p (wx xs)=true
 | []=>rfl
 | x::xs=>by show (true && SV.usesL p (wx xs))=true; rw [q1s p xs]; rfl
def litK (k:IntKind) (v:SV):Option Nat:=v.asInt none fun k' n=>boolC (eqK k' k) (n.asLit none fun n=>intC n some fun _=>none) none
theorem jxd {k:IntKind} {v:SV} {n:Nat} (h:litK k v=some n):v=.int k (.lit (.ofNat n)):=by
 unfold litK at h
 rcases qxc v with ⟨k',m,rfl⟩ | hv
 . obtain ⟨hk,h⟩:=qtb (show boolC (eqK k' k) (m.asLit none fun n=>intC n some fun _=>none) none=some n from h)
   rw [qag hk]
   cases m with
   | lit m=>cases m with
     | ofNat m=>cases h; rfl
     | negSucc m=>cases h
   | sym=>cases h
   | b8=>cases h
   | b32=>cases h
   | b64=>cases h
 . rw [hv] at h; cases h
def isK (k:IntKind) (L:List Nat):List SV->Bool :=
 List.rec (motive:=fun _=>List SV->Bool) (fun l=>nilN l) (fun t _ ih l=>List.rec (motive:=fun _=>Bool) false (fun v r _=>optC (litK k v) false fun x=>boolC (Nat.beq x t) (ih r) false) l) L
theorem q52 {k:IntKind}:∀ {L:List Nat} {l:List SV},isK k L l=true->l=kx k L
 | [],[],_=>rfl
 | [],_::_,h=>by cases h
 | t::L,[],h=>by cases h
 | t::L,v::l,h=>by
   have h:(optC (litK k v) false fun x=>boolC (Nat.beq x t) (isK k L l) false)=true:=h
   cases hx:litK k v with
   | none=>rw [hx] at h; cases h
   | some x =>
     rw [hx] at h
     have h:boolC (Nat.beq x t) (isK k L l) false=true:=h
     cases he:Nat.beq x t with
     | false=>rw [he] at h; cases h
     | true =>
       rw [he] at h
       rw [jxd hx,qpa he,q52 (L:=L) (l:=l) h]; rfl
def rowK (k:IntKind) (L:List Nat) (e:Option SO):Bool:=optC (qic e) false fun l=>isK k L l
theorem q6k {k:IntKind} {L:List Nat} {e:Option SO} (h:rowK k L e=true) (g:Nat->Nat):∃ e',e=some e'/\qrb g (.row (.lst (kx k L))) e':=by
 unfold rowK at h
 cases hc:qic e with
 | none=>rw [hc] at h; cases h
 | some l =>
   rw [hc] at h
   rw [q52 h] at hc
   exact q7b hc (by rw [qxw]; exact .refl _)
def q00 (v:SV) (nm n:Nat):Bool:=v.asSlice false fun a l c=>boolC (Nat.beq a.nm nm) (a.off.asLit false fun o=>boolC (Nat.beq o 0) (l.asLit false fun m=>boolC (Nat.beq m n) (SC.rec (motive:=fun _=>Bool) (fun k=>Nat.beq k n) (fun _=>false) (fun _ _=>false) c) false) false) false
theorem asSlice_cases (v:SV):(∃ a l c,v=.slice a l c)\/∀ {γ:Type} (d:γ) (f:SA->SN->SC->γ),v.asSlice d f=d:=by
 cases v <;> first | exact .inl ⟨_,_,_,rfl⟩ | exact .inr fun _ _=>rfl
theorem q7h {b c:Bool} (h:boolC b c false=true):b=true/\c=true:=by cases b <;> first | exact ⟨rfl,h⟩ | cases h
theorem q68 {v:SV} {nm n:Nat} (h:q00 v nm n=true):v=.slice ⟨nm,.lit 0⟩ (.lit n) (.lit n):=by
 unfold q00 at h
 rcases asSlice_cases v with ⟨⟨q,o⟩,l,c,rfl⟩ | hv
 . obtain ⟨h1,h⟩:=q7h h
   cases o <;> first | (cases h; done) | skip
   obtain ⟨h2,h⟩:=q7h h
   cases l <;> first | (cases h; done) | skip
   obtain ⟨h3,h⟩:=q7h h
   cases c <;> first | (cases h; done) | skip
   have h1:=qpa h1
   have h2:=qpa h2
   have h3:=qpa h3
   have h4:=qpa h
   subst h1 h2 h3 h4; rfl
 . rw [hv] at h; cases h
def qbf (H:List SO) (r:R α):R α:=boolC (rowK .u32 startL (nth H 0)) (boolC (rowK .u32 constL (nth H 1)) (boolC (quc (nth H 2)) (boolC (quc (nth H 3)) r (.stuck 730)) (.stuck 731)) (.stuck 732)) (.stuck 733)
structure ShaTP (H:List SO):Prop where
 s0:∀ g,∃ e',H[0]? = some e'/\qrb g q3f e'
 s1:∀ g,∃ e',H[1]? = some e'/\qrb g q4f e'
 s2:∀ g,∃ e',H[2]? = some e'/\qrb g anyR e'
 s3:∀ g,∃ e',H[3]? = some e'/\qrb g anyR e'
theorem qkc {H:List SO} {r:R α} {φ:α->Prop} (h:ShaTP H->r.Sat φ):(qbf H r).Sat φ:=by
 refine qfa fun h0=>qfa fun h1=>qfa fun h2=>qfa fun h3=>h ⟨fun g => ?_,fun g => ?_,fun g => ?_,fun g => ?_⟩
 . rw [← qga]; exact q6k h0 g
 . rw [← qga]; exact q6k h1 g
 . rw [← qga]; exact q0r h2
 . rw [← qga]; exact q0r h3
def qqa (names:List Nat) (ents:List SO) (args:List SV):Ifc:=⟨0::1::2::3::names,qpc ents,args⟩
theorem qdb {H:List SO} (hT:ShaTP H) {names:List Nat} {ents:List SO} {args:List SV} (h:EntsOK (qqa names ents args).big (qqa names ents args).known H names ents):EntsOK (qqa names ents args).big (qqa names ents args).known H (qqa names ents args).names (qqa names ents args).ents :=
 ⟨⟨hT.s0 _,qii _ _ _⟩,⟨hT.s1 _,qii _ _ _⟩,⟨hT.s2 _,rfl⟩,⟨hT.s3 _,rfl⟩,h⟩
theorem qma {β:Val} {names:List Nat} {ents:List SO} {args:List SV} (hG:GlobRel q3b β):∀ g j,q3b g=some j->(qqa names ents args).known j=true/\∃ l,β ((qqa names ents args).big j)=some l/\l.blk=g/\l.off=0:=by
 intro g j hg
 have hj:j=0\/j=1:=by
  rcases qcd (show boolC (Nat.beq g 3) (some 0) _=some j from hg) with ⟨_,h⟩ | h
  . cases h; exact .inl rfl
  obtain ⟨_,h⟩:=qtb h
  cases h; exact .inr rfl
 rcases hj with rfl | rfl
 . exact ⟨rfl,hG g 0 hg⟩
 . exact ⟨rfl,hG g 1 hg⟩
def rrt (x:W32) (n:Nat):W32:=x <<< (32 - n) ||| x >>> n
def tur2 (x:W32) (a b:Nat):W32:=BitVec.ofInt 32 0 ^^^ rrt x a ^^^ rrt x b
def tur3 (x:W32) (a b c:Nat):W32:=BitVec.ofInt 32 0 ^^^ rrt x a ^^^ rrt x b ^^^ rrt x c
def un32 (v:SV):Option W32:=v.asInt none fun k n=>boolC (eqK k .u32) (SI.rec (motive:=fun _=>Option W32) (fun _=>none) (fun _=>none) (fun _=>none) (fun x=>some x) (fun _=>none) n) none
theorem q8m {v:SV} {x:W32} (h:un32 v=some x):v=.int .u32 (.b32 x):=by
 unfold un32 at h
 rcases qxc v with ⟨k,n,rfl⟩ | hv
 . obtain ⟨hk,h⟩:=qtb (show boolC (eqK k .u32) (SI.rec (motive:=fun _=>Option W32) (fun _=>none) (fun _=>none) (fun _=>none) (fun x=>some x) (fun _=>none) n) none=some x from h)
   rw [qag hk]
   cases n <;> first | (cases h; rfl) | cases h
 . rw [hv] at h; cases h
def unL (l:List SV):Option (List Nat):=List.rec (motive:=fun _=>Option (List Nat)) (some []) (fun v _ ih=>optC (litI v) none fun x=>optC ih none fun xs=>some (x::xs)) l
def ix (l:List Nat):List SV:=mapN (fun n=>.int .i64 (.lit (Int.ofNat n))) l
theorem q62:∀ {l:List SV} {xs:List Nat},unL l=some xs->l=ix xs
 | [],xs,h=>by cases h; rfl
 | v::l,xs,h=>by
   obtain ⟨x,hx,h⟩:=qdf (show (optC (litI v) none fun x=>optC (unL l) none fun xs=>some (x::xs))=some xs from h)
   obtain ⟨ys,hy,h⟩:=qdf h
   cases h
   rw [qjf hx,q62 hy]; rfl
def q2s (a:List Nat):List Nat->Bool:=List.rec (motive:=fun _=>List Nat->Bool) (fun b=>nilN b) (fun x _ ih b=>List.rec (motive:=fun _=>Bool) false (fun y r _=>boolC (Nat.beq x y) (ih r) false) b) a
theorem qwj:∀ {a b:List Nat},q2s a b=true->a=b
 | [],[],_=>rfl
 | [],_::_,h=>by cases h
 | x::a,[],h=>by cases h
 | x::a,y::b,h=>by
   have h:boolC (Nat.beq x y) (q2s a b) false=true:=h
   cases hx:Nat.beq x y with
   | false=>rw [hx] at h; cases h
   | true =>
     rw [hx] at h
     rw [qpa hx,qwj h]
theorem q6t (x:W32) (a b:Nat) (h:(a=17/\b=19)\/(a=7/\b=18)):outP [] (qca cfg0 2000 122 [.int .u32 (.b32 x),.slice ⟨0,.lit 0⟩ (.lit 2) (.lit 2)] [.row (.lst (ix [a,b]))])=([],some (.int .u32 (.b32 (tur2 x a b)),[])):=by
 rcases h with ⟨rfl,rfl⟩ | ⟨rfl,rfl⟩ <;> kernel_rfl
theorem q7t (x:W32) (a b c:Nat) (h:(a=6/\b=11/\c=25)\/(a=2/\b=13/\c=22)):outP [] (qca cfg0 2000 122 [.int .u32 (.b32 x),.slice ⟨0,.lit 0⟩ (.lit 3) (.lit 3)] [.row (.lst (ix [a,b,c]))])=([],some (.int .u32 (.b32 (tur3 x a b c)),[])):=by
 rcases h with ⟨rfl,rfl,rfl⟩ | ⟨rfl,rfl,rfl⟩ <;> kernel_rfl
def w32R (x:W32):R SumRes:=.ok ⟨.int .u32 (.b32 x),[],[]⟩
def isSl (v:SV) (n:Nat) (f:Nat->R α):R α:=v.asSlice (.stuck 720) fun a l c=>a.off.asLit (.stuck 720) fun o=>boolC (Nat.beq o 0) (l.asLit (.stuck 720) fun m=>boolC (Nat.beq m n) (SC.rec (motive:=fun _=>R α) (fun k=>boolC (Nat.beq k n) (f a.nm) (.stuck 720)) (fun _=>.stuck 720) (fun _ _=>.stuck 720) c) (.stuck 720)) (.stuck 720)
theorem q72 {v:SV} {n:Nat} {f:Nat->R α} {φ:α->Prop} (h:∀ nm,v=.slice ⟨nm,.lit 0⟩ (.lit n) (.lit n)->(f nm).Sat φ):(isSl v n f).Sat φ:=by
 unfold isSl
 rcases asSlice_cases v with ⟨⟨nm,o⟩,l,c,rfl⟩ | hv
 . cases o with
   | lit o =>
     refine qfa fun ho => ?_
     cases l with
     | lit m =>
       refine qfa fun hm => ?_
       cases c with
       | lit k =>
         refine qfa fun hk=>h nm ?_
         rw [qpa ho,qpa hm,qpa hk]
       | sym=>trivial
       | rest=>trivial
     | sym=>trivial
     | byt=>trivial
   | sym=>trivial
   | byt=>trivial
 . rw [hv]; trivial
def turS:Summ:=fun args H _=>qdd args fun v sl=>optC (un32 v) (.stuck 721) fun x =>
 sl.asSlice (.stuck 722) fun _ l _=>l.asLit (.stuck 722) fun n=>boolC (Nat.beq n 2)
  (isSl sl 2 fun nm=>optC (qic (nth H nm)) (.stuck 723) fun cs=>optC (unL cs) (.stuck 723) fun ns=>boolC (q2s ns [17,19]) (w32R (tur2 x 17 19)) (boolC (q2s ns [7,18]) (w32R (tur2 x 7 18)) (.stuck 723)))
  (isSl sl 3 fun nm=>optC (qic (nth H nm)) (.stuck 723) fun cs=>optC (unL cs) (.stuck 723) fun ns=>boolC (q2s ns [6,11,25]) (w32R (tur3 x 6 11 25)) (boolC (q2s ns [2,13,22]) (w32R (tur3 x 2 13 22)) (.stuck 723)))
theorem jyd (f:Nat->Nat):∀ xs,SV.renL f (ix xs)=ix xs
 | []=>rfl
 | x::xs=>by show _::SV.renL f (ix xs)=_; rw [jyd f xs]; rfl
theorem q15 (p:Nat->Bool):∀ xs,SV.usesL p (ix xs)=true
 | []=>rfl
 | x::xs=>by show (true && SV.usesL p (ix xs))=true; rw [q15 p xs]; rfl
theorem turOK:q3a Tryz.prog 122 turS:=by
 intro glob O w0 β H w base args vs hH hG ha
 refine qnb fun v sl hv=>qja fun x hx => ?_
 have key:∀ (nm n:Nat) (cs:List SV) (ns:List Nat) (y:W32),sl=.slice ⟨nm,.lit 0⟩ (.lit n) (.lit n)->qic (nth H nm)=some cs->unL cs=some ns ->
   outP [] (qca cfg0 2000 122 [.int .u32 (.b32 x),.slice ⟨0,.lit 0⟩ (.lit n) (.lit n)] [.row (.lst (ix ns))])=([],some (.int .u32 (.b32 y),[]))->(w32R y).Sat (q4a Tryz.prog H β w base 122 vs):=by
  intro nm n cs ns y hs hc hn hrun
  rw [hv,q8m hx,hs] at ha
  rw [qga] at hc
  have ht:∀ g,∃ e',H[nm]? = some e'/\qrb g (.row (.lst (ix ns))) e':=fun g=>q7b hc (by rw [jyd,q62 hn]; exact .refl _)
  exact qkg q4c rfl 2000 hH ⟨[nm],[.row (.lst (ix ns))],[.int .u32 (.b32 x),.slice ⟨0,.lit 0⟩ (.lit n) (.lit n)]⟩ ha
   (Ifc.fits (by simp) rfl ⟨⟨ht _,q15 _ _⟩,trivial⟩) [] (by simp) (by simp) hrun qaa fun _ _=>qkb rfl rfl rfl
 rcases asSlice_cases sl with ⟨a,l,c,hsl⟩ | hno
 . rw [hsl]
   show R.Sat (l.asLit _ _) _
   refine SN.asLit_sat (fun n _ => ?_) fun _=>trivial
   rw [← hsl]
   refine qna (fun _=>q72 fun nm hs=>qja fun cs hcs=>qja fun ns hns => ?_) fun _=>q72 fun nm hs=>qja fun cs hcs=>qja fun ns hns => ?_
   . refine qna (fun h1 => ?_) fun _=>qfa fun h1 => ?_
     . have:=qwj h1; subst this
       exact key nm 2 cs _ _ hs hcs hns (q6t x 17 19 (.inl ⟨rfl,rfl⟩))
     . have:=qwj h1; subst this
       exact key nm 2 cs _ _ hs hcs hns (q6t x 7 18 (.inr ⟨rfl,rfl⟩))
   . refine qna (fun h1 => ?_) fun _=>qfa fun h1 => ?_
     . have:=qwj h1; subst this
       exact key nm 3 cs _ _ hs hcs hns (q7t x 6 11 25 (.inl ⟨rfl,rfl,rfl⟩))
     . have:=qwj h1; subst this
       exact key nm 3 cs _ _ hs hcs hns (q7t x 2 13 22 (.inr ⟨rfl,rfl,rfl⟩))
 . rw [hno]; trivial
def q2r (F:W32->W32->W32->W32):Summ:=fun args _ _=>qoc args fun a b c=>optC (un32 a) (.stuck 724) fun x=>optC (un32 b) (.stuck 724) fun y=>optC (un32 c) (.stuck 724) fun z=>w32R (F x y z)
theorem q25 {f:FuncId} {F:W32->W32->W32->W32} (hrun:∀ x y z:W32,outP [] (qca cfg0 200 f [.int .u32 (.b32 x),.int .u32 (.b32 y),.int .u32 (.b32 z)] [])=([],some (.int .u32 (.b32 (F x y z)),[]))):q3a Tryz.prog f (q2r F):=by
 intro glob O w0 β H w base args vs hH hG ha
 refine qcb fun a b c hv=>qja fun x hx=>qja fun y hy=>qja fun z hz => ?_
 rw [hv,q8m hx,q8m hy,q8m hz] at ha
 exact qkg q4c rfl 200 hH ⟨[],[],[.int .u32 (.b32 x),.int .u32 (.b32 y),.int .u32 (.b32 z)]⟩ ha (q5c rfl) [] (by simp) (by simp) (hrun x y z) qaa fun _ _=>qkb rfl rfl rfl
def qji (x y z:W32):W32:=x &&& y ^^^ ((BitVec.ofInt 32 4294967295 ^^^ x) &&& z)
def majW (x y z:W32):W32:=x &&& y ^^^ x &&& z ^^^ y &&& z
theorem jdh:q3a Tryz.prog 123 (q2r qji):=q25 fun x y z=>by kernel_rfl
theorem majOK:q3a Tryz.prog 124 (q2r majW):=q25 fun x y z=>by kernel_rfl
def q3s:Cfg:=cfgG q3b (qbb [(122,turS),(123,q2r qji),(124,q2r majW)])
theorem allS {glob:Nat->Option Nat} {x:FuncId × Summ} {l:List (FuncId × Summ)} (h:SumAt Tryz.prog glob x.1 x.2) (h':∀ y∈l,SumAt Tryz.prog glob y.1 y.2):∀ y∈x::l,SumAt Tryz.prog glob y.1 y.2:=by
 intro y hy
 rcases List.mem_cons.1 hy with rfl | hy
 . exact h
 . exact h' y hy
theorem qko:CfgOK q3s:=qwb (allS (turOK _) (allS (jdh _) (allS (majOK _) (by simp))))
end
end Go.Proofs.YtcpafideogckmaaGreatDoor.Aes
