/-
  Texts behind one another: the symbolic simulator and what it is told of the program.
-/
import Derived.Test.YthkgcljngalafaaDoorPr5
import Derived.Test.YthkgcljngalafaaDoorProg
import Derived.Test.YthkgcljngalafaaDoorPr3
import Derived.Laws.Externs
import Derived.Shelf.SlSortCmp.WholeK
import Derived.Ground.SlsfProg
namespace Go.Sim
noncomputable section
variable {α:Type}
def rowF (X:Nat->BitVec 8) (n:Nat):SO:=.row (.fn (qab X) n)
theorem q6c (X:Nat->BitVec 8):IsB (qab X):=fun i=>⟨X i,rfl⟩
theorem j6f {g:Nat->SV} (h:IsB g):qab (fun i=>byteOf (g i))=g:=by
 funext i
 obtain ⟨x,hx⟩:=h i
 show SV.int IntKind.u8 (SI.b8 (byteOf (g i)))=_
 rw [hx]; rfl
def qmy (c:Cells) (f:(Nat->BitVec 8)->Nat->R α):R α :=
 Cells.rec (motive:=fun _=>R α) (fun l=>optC (unb l) (.stuck 710) fun xs=>f (qya xs) (lenN xs)) (fun g n=>.need (IsB g) (f (fun i=>byteOf (g i)) n)) (fun V n=>.need (∀ i,i<n->fitK (.i .u8) (V i)) (f (fun i=>BitVec.ofInt 8 (vNum (V i))) n)) c
def qai (e:Option SO) (f:(Nat->BitVec 8)->Nat->R α):R α :=
 optC e (.stuck 711) fun e=>SO.rec (motive:=fun _=>R α) (fun c _ _=>qmy c f) (fun c=>qmy c f) (fun _ _ _ _ _ _ _ _=>.stuck 712) (fun _=>.stuck 712) (.stuck 712) (fun _=>.stuck 712) e
theorem qy6 {γ:Val}:∀ {xs:List (BitVec 8)} {vs:List Value},SV.denL γ (bx xs)=some vs->CellsRel γ (.fn (qab (qya xs)) xs.length) vs
 | [],vs,h=>by cases h; exact ⟨rfl,fun i x hx=>by simp at hx⟩
 | x::xs,vs,h=>by
   obtain ⟨v,us,hv,hu,rfl⟩:=denL_cons.1 (show SV.denL γ (.int .u8 (.b8 x)::bx xs)=some vs from h)
   obtain ⟨h1,h2⟩:=qy6 hu
   refine ⟨by simp [h1],fun i y hy => ?_⟩
   cases i with
   | zero =>
     simp at hy; subst hy
     cases hv; rfl
   | succ i =>
     have:=h2 i y (by simpa using hy)
     exact this
theorem qws {c:Cells} {f:(Nat->BitVec 8)->Nat->R α} {φ:α->Prop} (h:∀ X n,c.Imp (.fn (qab X) n)->(f X n).Sat φ):(qmy c f).Sat φ:=by
 cases c with
 | lst l =>
   refine qia fun xs hx=>h _ _ fun γ vs hv => ?_
   rw [qga]
   exact qy6 (q00 hx _ _ hv)
 | fn g n =>
   intro hg
   refine h _ _ ?_
   rw [j6f hg]; exact .refl _
 | raw V n =>
   intro hg
   refine h _ _ fun γ vs hv=>⟨hv.1,fun i x hx => ?_⟩
   have hlt:=(List.getElem?_eq_some_iff.1 hx).1
   have hn:=hv.1
   rw [hv.2 i x hx]
   exact congrArg some (qt0 (hg i (by omega))).symm
theorem qce {e:Option SO} {f:(Nat->BitVec 8)->Nat->R α} {φ:α->Prop} (h:∀ X n,(∀ g,∃ e',e=some e'/\Taken g (rowF X n) e')->(f X n).Sat φ):(qai e f).Sat φ:=by
 refine qia fun e' he => ?_
 cases e' with
 | own c w el=>exact qws fun X n hi=>h X n fun g=>⟨_,he,q9h (c0:=c) (.inr ⟨w,el,rfl⟩) hi.front⟩
 | row c=>exact qws fun X n hi=>h X n fun g=>⟨_,he,q9h (c0:=c) (.inl rfl) hi.front⟩
 | loop=>trivial
 | deferred=>trivial
 | gone=>trivial
 | obj=>trivial
theorem qbi (p:Nat->Bool) (X:Nat->BitVec 8) (n:Nat):(rowF X n).CUses p:=fun _=>rfl
def q7k (v:SV) (nil:R α) (f:SA->SN->R α):R α :=
 SV.rec (motive_1:=fun _=>R α) (motive_2:=fun _=>Unit) (fun _ _=>.stuck 713) (fun _=>.stuck 713) (fun _=>.stuck 713) (fun _=>.stuck 713) (.stuck 713) (fun a l _=>f a l) nil (fun _=>.stuck 713) (.stuck 713) (fun _ _ _ _ _=>.stuck 713) (.stuck 713) (fun _ _ _=>.stuck 713) (.stuck 713) (fun _ _=>.stuck 713) (fun _ _=>.stuck 713) (fun _=>.stuck 713) (fun _ _ _ _=>.stuck 713) () (fun _ _ _ _=>()) v
theorem q9e {γ:Val} {a:SA} {l:SN} {c:SC} {x:Value} (h:(SV.slice a l c).den γ=some x):∃ m,l.den<=m/\(SV.slice ⟨a.nm,.sym a.off.den⟩ (.sym l.den) (.sym m)).den γ=some x/\(SV.slice ⟨a.nm,.sym a.off.den⟩ l (.sym m)).den γ=some x/\(SV.slice a l (.sym m)).den γ=some x:=by
 simp only [SV.den,Option.bind_eq_some_iff] at h
 obtain ⟨y,hy,m,hm,hs⟩:=h
 unfold q5m at hs
 have hl:l.den<=m:=by
  by_cases h:l.den<=m
  . exact h
  . rw [if_neg h] at hs; cases hs
 have hy':(⟨a.nm,.sym a.off.den⟩:SA).den γ=some y:=hy
 refine ⟨m,hl,?_,?_,?_⟩
 . simp only [SV.den,Option.bind_eq_some_iff]
   exact ⟨y,hy',m,rfl,hs⟩
 . simp only [SV.den,Option.bind_eq_some_iff]
   exact ⟨y,hy',m,rfl,hs⟩
 . simp only [SV.den,Option.bind_eq_some_iff]
   exact ⟨y,hy,m,rfl,hs⟩
theorem qyg {v:SV} {nil:R α} {f:SA->SN->R α} {φ:α->Prop} (h0:v=.nilSlice->nil.Sat φ) (h:∀ a l c,v=.slice a l c->(f a l).Sat φ):(q7k v nil f).Sat φ:=by
 cases v <;> first | trivial | exact h0 rfl | exact h _ _ _ rfl
def q33 (l:SN) (n:Nat) (t f:R α):R α:=SN.rec (motive:=fun _=>R α) (fun m=>boolC (Nat.beq m n) t f) (fun m=>.fork (decide (m=n)) t f) (fun o x=>.fork (decide (o+x.toNat=n)) t f) l
theorem q8u {l:SN} {n:Nat} {t f:R α} {φ:α->Prop} (h:l.den=n->t.Sat φ) (h':l.den≠n->f.Sat φ):(q33 l n t f).Sat φ:=by
 cases l with
 | lit m=>exact q6e (fun hm=>h (qzb hm)) fun hm=>h' (qu6 hm)
 | sym m=>exact ⟨fun hm=>h (of_decide_eq_true hm),fun hm=>h' (of_decide_eq_false hm)⟩
 | byt o x=>exact ⟨fun hm=>h (of_decide_eq_true hm),fun hm=>h' (of_decide_eq_false hm)⟩
theorem ql9 {c:Cfg} (hc:CfgOK c) (n:Nat) {O:Nat->Prop} {w0 w:World} {β:Val} {H:List SO} {base:Nat} {f:FuncId} {vs:List Value} (hH:HeapRel0 c.P O w0 β H w)
  (I:Ifc) (hgl:∀ g j,c.glob g=some j->I.known j=true/\∃ l,β (I.big j)=some l/\l.blk=g/\l.off=0) (ha:SV.denL β (SV.renL I.big I.args)=some vs) (hI:I.Fits H) {r:SumRes} (keep:List Nat) (hk:∀ j∈keep,I.names.length<=j) (hkn:keep.Nodup)
  {js:List Nat} {ps:List Prop} {v:SV} {es:List (Option SO)} (h:outP js (qka c n f I.args I.ents)=(ps,some (v,es))) (hp:∀ p∈ps,p) (hD:∀ H2:List SO,js.map (fun j=>H2[j]?)=es->I.Ends base keep r v H2):SumSem c.P H β w base f vs r :=
 qnj hc n hH I hgl ha hI keep hk hkn (q20 h hp hD)
theorem q4o {c:Cfg} (hc:CfgOK c) (hgl:c.glob=fun _=>none) (n:Nat) {O:Nat->Prop} {w0 w:World} {β:Val} {H:List SO} {base:Nat} {f:FuncId} {vs:List Value} (hH:HeapRel0 c.P O w0 β H w)
  (I:Ifc) (ha:SV.denL β (SV.renL I.big I.args)=some vs) (hI:I.Fits H) {r:SumRes} (keep:List Nat) (hk:∀ j∈keep,I.names.length<=j) (hkn:keep.Nodup)
  {js:List Nat} {ps:List Prop} {v:SV} {es:List (Option SO)} (h:outP js (qka c n f I.args I.ents)=(ps,some (v,es))) (hp:∀ p∈ps,p) (hD:∀ H2:List SO,js.map (fun j=>H2[j]?)=es->I.Ends base keep r v H2):SumSem c.P H β w base f vs r :=
 qz0 hc hgl n hH I ha hI keep hk hkn (q20 h hp hD)
end
end Go.Sim
namespace Go.Proofs.YthkgcljngalafaaDoor.Aes
noncomputable section
open Go.Sim
open Go.Proofs
variable {α:Type}
theorem qz6:ProgOK Tryd.prog:=by
 refine ⟨?_,by kernel_rfl⟩
 have h:(Tryd.prog.funcs.all fun fn => !(fn.body.isSome && fn.name == "runtime.NumGoroutine"))=true:=by kernel_rfl
 intro f fn hf hb
 have:=Array.all_eq_true'.1 h fn (Array.mem_of_getElem? hf)
 rw [hb] at this
 simpa using this
def cfgG (glob:Nat->Option Nat) (s:FuncId->Option Summ):Cfg:={ P:=Tryd.prog,glob:=glob,sums:=s,stopAt:=none }
def qvh (s:FuncId->Option Summ):Cfg:=cfgG (fun _=>none) s
def qjc (l:List (FuncId × Summ)):FuncId->Option Summ:=List.rec (motive:=fun _=>FuncId->Option Summ) (fun _=>none) (fun a _ ih f=>boolC (Nat.beq f a.1) (some a.2) (ih f)) l
theorem qrd {glob:Nat->Option Nat}:∀ {l:List (FuncId × Summ)},(∀ x∈l,SumAt Tryd.prog glob x.1 x.2)->CfgOK (cfgG glob (qjc l))
 | [],_=>⟨qz6,fun _ _ h=>(by cases h),fun _ _ h=>by cases h⟩
 | a::l,hl=>⟨qz6,fun f s h=>by
   rcases qnc (show boolC (Nat.beq f a.1) (some a.2) (qjc l f)=some s from h) with ⟨hf,h⟩ | h
   . cases h; rw [qzb hf]; exact hl a List.mem_cons_self
   . exact (qrd (l:=l) fun x hx=>hl x (List.mem_cons_of_mem _ hx)).sums f s h,fun _ _ h=>by cases h⟩
theorem q8d {l:List (FuncId × Summ)} (h:∀ x∈l,qob Tryd.prog x.1 x.2):CfgOK (qvh (qjc l)):=qrd fun x hx=>h x hx _
theorem all1 {x:FuncId × Summ} (h:qob Tryd.prog x.1 x.2):∀ y∈[x],qob Tryd.prog y.1 y.2:=by simpa using h
theorem allC {x:FuncId × Summ} {l:List (FuncId × Summ)} (h:qob Tryd.prog x.1 x.2) (h':∀ y∈l,qob Tryd.prog y.1 y.2):∀ y∈x::l,qob Tryd.prog y.1 y.2:=by
 intro y hy
 rcases List.mem_cons.1 hy with rfl | hy
 . exact h
 . exact h' y hy
def cfg0:Cfg:=qvh (qjc [])
theorem qoj:CfgOK cfg0:=q8d (by simp)
end
end Go.Proofs.YthkgcljngalafaaDoor.Aes
namespace Go.Sim
noncomputable section
open Go.RowKit
variable {α:Type}
theorem spot_of {P:Program} {w:World} {r:Reach} {base t e:Nat} {a:Option Addr} {len cap:Nat} (ht:P.underlying t=some (.slice e)) (h:Value.okWide P w r base t (.slice a len cap)):∀ x,a=some x->x.spot=none:=by
 rintro x rfl
 simp only [Value.okWide,ht,Cell.okWide,Cell.ok] at h
 exact h.2.2.2.1
def outO (js:List Nat) (t:Tree):List Bool->List Prop × Option (SV × List (Option SO)) :=
 Tree.rec (motive:=fun _=>List Bool->List Prop × Option (SV × List (Option SO))) (fun v H _=>([],some (v,mapN (fun j=>nth H j) js))) (fun _ _=>([],none)) (fun p _ ih ds=>(p::(ih ds).1,(ih ds).2))
  (fun b _ _ iht ihf ds=>List.rec (motive:=fun _=>List Prop × Option (SV × List (Option SO))) ([],none) (fun d r _=>((b=d)::(boolC d (iht r) (ihf r)).1,(boolC d (iht r) (ihf r)).2)) ds) (fun _ _=>([],none)) (fun _ _ _=>([],none)) t
theorem qpc {js:List Nat} {t:Tree} {ds:List Bool} {ps:List Prop} {v:SV} {es:List (Option SO)} (h:outO js t ds=(ps,some (v,es))) (hp:∀ p∈ps,p) {D:SV->List SO->Prop} {S:SS->Prop} (hD:∀ H:List SO,js.map (fun j=>H[j]?)=es->D v H):t.Ob D S:=by
 induction t generalizing ps ds with
 | done v' H =>
   have h':([],some (v',mapN (fun j=>nth H j) js))=(ps,some (v,es)):=h
   have h1:=Option.some.inj (Prod.mk.inj h').2
   obtain ⟨h2,h3⟩:=Prod.mk.inj h1
   subst h2
   refine hD H ?_
   rw [qla] at h3
   rw [← h3]
   exact List.map_congr_left fun j _=>(qda H j).symm
 | stop=>cases (Prod.mk.inj (show ([],none)=(ps,some (v,es)) from h)).2
 | need p t ih =>
   have h':(p::(outO js t ds).1,(outO js t ds).2)=(ps,some (v,es)):=h
   obtain ⟨h1,h2⟩:=Prod.mk.inj h'
   subst h1
   exact ⟨hp p List.mem_cons_self,ih (ds:=ds) (ps:=(outO js t ds).1) (by rw [← h2]) fun q hq=>hp q (List.mem_cons_of_mem _ hq)⟩
 | fork b t f iht ihf =>
   cases ds with
   | nil=>cases (Prod.mk.inj (show ([],none)=(ps,some (v,es)) from h)).2
   | cons d r =>
     have h':((b=d)::(boolC d (outO js t r) (outO js f r)).1,(boolC d (outO js t r) (outO js f r)).2)=(ps,some (v,es)):=h
     obtain ⟨h1,h2⟩:=Prod.mk.inj h'
     subst h1
     have hb:=hp _ List.mem_cons_self
     cases d with
     | true=>exact ⟨fun _=>iht (ds:=r) (ps:=(outO js t r).1) (by rw [← h2]; rfl) fun q hq=>hp q (List.mem_cons_of_mem _ hq),fun hf=>by rw [hf] at hb; cases hb⟩
     | false=>exact ⟨fun ht=>(by rw [ht] at hb; cases hb),fun _=>ihf (ds:=r) (ps:=(outO js f r).1) (by rw [← h2]; rfl) fun q hq=>hp q (List.mem_cons_of_mem _ hq)⟩
 | stuck=>cases (Prod.mk.inj (show ([],none)=(ps,some (v,es)) from h)).2
 | any=>cases (Prod.mk.inj (show ([],none)=(ps,some (v,es)) from h)).2
theorem qny {c:Cfg} (hc:CfgOK c) (hgl:c.glob=fun _=>none) (n:Nat) {O:Nat->Prop} {w0 w:World} {β:Val} {H:List SO} {base:Nat} {f:FuncId} {vs:List Value} (hH:HeapRel0 c.P O w0 β H w)
  (I:Ifc) (ha:SV.denL β (SV.renL I.big I.args)=some vs) (hI:I.Fits H) {r:SumRes} (keep:List Nat) (hk:∀ j∈keep,I.names.length<=j) (hkn:keep.Nodup)
  {js:List Nat} {ds:List Bool} {ps:List Prop} {v:SV} {es:List (Option SO)} (h:outO js (qka c n f I.args I.ents) ds=(ps,some (v,es))) (hp:∀ p∈ps,p) (hD:∀ H2:List SO,js.map (fun j=>H2[j]?)=es->I.Ends base keep r v H2):SumSem c.P H β w base f vs r :=
 qz0 hc hgl n hH I ha hI keep hk hkn (qpc h hp hD)
theorem q9u {c:Cfg} (hc:CfgOK c) (n:Nat) {O:Nat->Prop} {w0 w:World} {β:Val} {H:List SO} {base:Nat} {f:FuncId} {vs:List Value} (hH:HeapRel0 c.P O w0 β H w)
  (I:Ifc) (hgl:∀ g j,c.glob g=some j->I.known j=true/\∃ l,β (I.big j)=some l/\l.blk=g/\l.off=0) (ha:SV.denL β (SV.renL I.big I.args)=some vs) (hI:I.Fits H) {r:SumRes} (keep:List Nat) (hk:∀ j∈keep,I.names.length<=j) (hkn:keep.Nodup)
  {js:List Nat} {ds:List Bool} {ps:List Prop} {v:SV} {es:List (Option SO)} (h:outO js (qka c n f I.args I.ents) ds=(ps,some (v,es))) (hp:∀ p∈ps,p) (hD:∀ H2:List SO,js.map (fun j=>H2[j]?)=es->I.Ends base keep r v H2):SumSem c.P H β w base f vs r :=
 qnj hc n hH I hgl ha hI keep hk hkn (qpc h hp hD)
theorem qca:∀ p∈([]:List Prop),p:=by simp
theorem all_cons {p:Prop} {ps:List Prop} (h:p) (hs:∀ q∈ps,q):∀ q∈p::ps,q:=by
 intro q hq
 rcases List.mem_cons.1 hq with rfl | hq
 . exact h
 . exact hs q hq
end
noncomputable section
variable {α:Type}
structure SP where
 fn:FuncId
 tmps:List (Option SV)
 todo:List SItem
 defers:List SD
 roundOf:Option Nat
inductive HP where
 | ent (e:SO)
 | loop (state:LoopState) (pending:Option Code) (fn:FuncId) (tmps:List (Option SV)) (params:Array Tmp) (assign body:Code) (defers:Nat)
structure Cut where
 frames:List SP
 heap:List HP
structure Junk where
 fr:Nat->Nat->Value
 hp:Nat->Nat->Value
def q43 (js:Nat->Value) (T:List (Option SV)):Nat->List SV :=
 List.rec (motive:=fun _=>Nat->List SV) (fun _=>[]) (fun o _ ih k=>optC o (.val (js k)) (fun v=>v)::ih (Nat.succ k)) T
def SP.fill (js:Nat->Value) (p:SP):SF:=⟨p.fn,q43 js p.tmps 0,p.todo,p.defers,p.roundOf⟩
def q06 (J:Nat->Nat->Value) (l:List SP):Nat->List SF:=List.rec (motive:=fun _=>Nat->List SF) (fun _=>[]) (fun p _ ih i=>p.fill (J i)::ih (Nat.succ i)) l
def HP.fill (js:Nat->Value) (E:HP):SO:=HP.rec (motive:=fun _=>SO) (fun e=>e) (fun s p f T ps a b d=>.loop s p f (q43 js T 0) ps a b d) E
def qpj (J:Nat->Nat->Value) (l:List HP):Nat->List SO:=List.rec (motive:=fun _=>Nat->List SO) (fun _=>[]) (fun p _ ih i=>p.fill (J i)::ih (Nat.succ i)) l
def Cut.fill (J:Junk) (C:Cut):SS:=⟨q06 J.fr C.frames 0,qpj J.hp C.heap 0⟩
def SItem.ren (f:Nat->Nat):SItem->SItem
 | .inRF n=>.inRF (f n)
 | .endRF n=>.endRF (f n)
 | x=>x
def SD.ren (f:Nat->Nat):SD->SD
 | .coll n=>.coll (f n)
 | .call g xs ys=>.call (g.ren f) (SV.renL f xs) (SV.renL f ys)
theorem ItemRel.ren {β:Val} (f:Nat->Nat) {x:SItem} {y:Item} (h:ItemRel β (x.ren f) y):ItemRel (fun n=>β (f n)) x y:=by
 cases x <;> cases y <;> exact h
theorem TodoRel.ren {β:Val} (f:Nat->Nat):∀ {x:List SItem} {y:List Item},TodoRel β (x.map (SItem.ren f)) y->TodoRel (fun n=>β (f n)) x y
 | [],[],_=>trivial
 | _::_,_::_,h=>⟨ItemRel.ren f h.1,TodoRel.ren f h.2⟩
 | [],_::_,h=>h.elim
 | _::_,[],h=>h.elim
theorem SD.den_ren (f:Nat->Nat) (β:Val) (d:SD):(d.ren f).den β=d.den (fun n=>β (f n)):=by
 cases d with
 | coll n=>rfl
 | call g xs ys=>simp only [SD.ren,SD.den,SFn.den_ren,SV.denL_ren]
theorem SD.denL_ren (f:Nat->Nat) (β:Val):∀ l:List SD,SD.denL β (l.map (SD.ren f))=SD.denL (fun n=>β (f n)) l
 | []=>rfl
 | d::l=>by simp only [List.map_cons,SD.denL,SD.den_ren,SD.denL_ren f β l]
def GenT (f:Nat->Nat):List SV->List (Option SV)->Prop
 | v::vs,some u::us=>v.Imp (u.ren f)/\GenT f vs us
 | _::vs,none::us=>GenT f vs us
 | [],[]=>True
 | _,_=>False
structure GenF (f:Nat->Nat) (s:SF) (p:SP):Prop where
 fn:s.fn=p.fn
 tmps:GenT f s.tmps p.tmps
 todo:s.todo=p.todo.map (SItem.ren f)
 defers:s.defers=p.defers.map (SD.ren f)
 roundOf:s.roundOf=p.roundOf.map f
def qmw (f:Nat->Nat):List SF->List SP->Prop
 | s::ss,p::ps=>GenF f s p/\qmw f ss ps
 | [],[]=>True
 | _,_=>False
def GenE (f:Nat->Nat) (e:Option SO) (E:HP):Prop :=
 match E with
 | .ent (.own c w el)=>∃ c0,e=some (.own c0 w el)/\c0.Imp (c.ren f)
 | .ent (.row c)=>∃ c0,e=some (.row c0)/\c0.Imp (c.ren f)
 | .ent (.deferred ds)=>e=some (.deferred (ds.map (List.map (SD.ren f))))
 | .ent (.obj o)=>∃ o0,e=some (.obj o0)/\o0.Imp (o.ren f)
 | .ent .gone=>True
 | .ent (.loop ..)=>False
 | .loop s p g T ps a b d=>∃ T0,e=some (.loop s p g T0 ps a b (f d))/\GenT f T0 T
def q8a (names:List Nat) (N j:Nat):Nat:=optC (nth names j) (Nat.add N j) fun n=>n
structure Gen (k0:Nat) (s:SS) (C:Cut) (names:List Nat):Prop where
 keep:∀ j,j<k0->names[j]? = some j
 nodup:names.Nodup
 len:names.length=C.heap.length
 frames:qmw (q8a names s.heap.length) s.frames C.frames
 heap:∀ j E,C.heap[j]? = some E->GenE (q8a names s.heap.length) s.heap[q8a names s.heap.length j]? E
structure BaseOK (k0:Nat) (B:Base):Prop where
 fix:∀ n,k0<=n->B.fix n=none
 glob:∀ g nm,B.glob g=some nm->nm<k0
theorem q5j {β β':Val} {f:Nat->Nat} (hβ:β'=fun n=>β (f n)) {js:Nat->Value}:∀ {vs:List SV} {T:List (Option SV)} {xs:List Value} {o:Nat},SV.denL β vs=some xs->GenT f vs T->(∀ k x,xs[k]? = some x->js (o+k)=x)->SV.denL β' (q43 js T o)=some xs
 | [],[],xs,o,h,_,_=>h
 | v::vs,u::us,xs,o,h,hg,hj=>by
   obtain ⟨y,ys,hy,hys,rfl⟩:=denL_cons.1 h
   have hj':∀ k x,ys[k]? = some x->js (o+1+k)=x:=fun k x hk=>by
    rw [show o+1+k=o+(k+1) from by omega]; exact hj (k+1) x (by simpa using hk)
   cases u with
   | some u =>
     refine denL_cons.2 ⟨y,ys,?_,q5j hβ hys hg.2 hj',rfl⟩
     show u.den β'=_
     rw [hβ,← SV.den_ren]; exact hg.1 _ _ hy
   | none =>
     refine denL_cons.2 ⟨y,ys,?_,q5j hβ hys hg hj',rfl⟩
     show some (js o)=_
     rw [show o=o+0 from rfl,hj 0 y rfl]
 | [],_::_,_,_,_,h,_=>h.elim
 | _::_,[],_,_,_,h,_=>h.elim
theorem qav {names:List Nat} {N j:Nat} (h:j<names.length):names[j]? = some (q8a names N j):=by
 unfold q8a
 rw [qda,List.getElem?_eq_getElem h]; rfl
theorem q16 {names:List Nat} {N j:Nat} (h:names.length<=j):q8a names N j=N+j:=by
 unfold q8a
 rw [qda,List.getElem?_eq_none h]; rfl
theorem qxs (J:Nat->Nat->Value):∀ (l:List HP) (o i:Nat),(qpj J l o)[i]? = l[i]?.map (HP.fill (J (o+i)))
 | [],_,_=>by simp [qpj]
 | _::_,_,0=>rfl
 | _::l,o,i+1=>by
   show (qpj J l (o+1))[i]? = _
   rw [qxs J l (o+1) i,show o+1+i=o+(i+1) from by omega]; simp
theorem q3m (J:Nat->Nat->Value):∀ (l:List HP) (o:Nat),(qpj J l o).length=l.length
 | [],_=>rfl
 | _::l,o=>congrArg (· + 1) (q3m J l (o+1))
theorem HP.owned_fill {f:Nat->Nat} {js:Nat->Value} {e:Option SO} {E:HP} (h:GenE f e E) (ho:(E.fill js).owned=true):∃ e0,e=some e0/\e0.owned=true:=by
 cases E with
 | ent E =>
   cases E with
   | own c w el=>obtain ⟨c0,rfl,_⟩:=h; exact ⟨_,rfl,rfl⟩
   | row c=>cases ho
   | loop=>exact h.elim
   | deferred ds=>have h:e=_:=h; subst h; exact ⟨_,rfl,rfl⟩
   | gone=>cases ho
   | obj o=>obtain ⟨o0,rfl,_⟩:=h; exact ⟨_,rfl,rfl⟩
 | loop s p g T ps a b d=>obtain ⟨T0,rfl,_⟩:=h; exact ⟨_,rfl,rfl⟩
theorem q8k {β β':Val} {f:Nat->Nat} (hβ:β'=fun n=>β (f n)) {J:Nat->Nat->Value}:∀ {ss:List SF} {ps:List SP} {fs:List Frame} {o:Nat},FramesRel β ss fs->qmw f ss ps->(∀ i fr,fs[i]? = some fr->∀ k x,fr.tmps.toList[k]? = some x->J (o+i) k=x)->FramesRel β' (q06 J ps o) fs
 | [],[],[],o,_,_,_=>trivial
 | s::ss,p::ps,fr::fs,o,h,hg,hj=>by
   have h0:=hj 0 fr rfl
   refine ⟨?_,q8k hβ h.2 hg.2 fun i fr' hi k x hk => ?_⟩
   . obtain ⟨h1,h2,h3,h4,h5,h6,h7⟩:=h.1
     obtain ⟨g1,g2,g3,g4,g5⟩:=hg.1
     refine ⟨h1.trans g1,?_,?_,?_,h5,h6,?_⟩
     . exact q5j hβ h2 g2 fun k x hk=>by rw [Nat.zero_add]; exact h0 k x hk
     . rw [hβ]; rw [g3] at h3; exact TodoRel.ren f h3
     . show SD.denL β' p.defers=_
       rw [hβ,← SD.denL_ren,← g4]; exact h4
     . show RoundRel β' p.roundOf fr.roundOf
       rw [hβ]
       rw [g5] at h7
       cases hp:p.roundOf <;> cases hr:fr.roundOf <;> rw [hp,hr] at h7 <;> exact h7
   . rw [show o+1+i=o+(i+1) from by omega]
     exact hj (i+1) fr' (by simpa using hi) k x hk
 | [],_::_,_,_,_,h,_=>h.elim
 | _::_,[],_,_,_,h,_=>h.elim
 | [],[],_::_,_,h,_,_=>h.elim
 | _::_,_::_,[],_,h,_,_=>h.elim
theorem Cells.den_ren (f:Nat->Nat) {β:Val} {c:Cells} {vs:List Value} (h:CellsRel β (c.ren f) vs):CellsRel (fun n=>β (f n)) c vs:=by
 cases c with
 | lst l =>
   have h:SV.denL β (SV.renL f l)=some vs:=h
   rw [SV.denL_ren] at h; exact h
 | fn g n =>
   obtain ⟨h1,h2⟩:=h
   refine ⟨h1,fun i x hx => ?_⟩
   have:=h2 i x hx
   rw [SV.den_ren] at this; exact this
 | raw V n=>exact h
theorem jrd {B:Base} {k0:Nat} (hB:BaseOK k0 B) {s:SS} {C:Cut} {names:List Nat} (h:Gen k0 s C names) {m:Machine} (hM:MRel B s m):∃ J,MRel B (C.fill J) m:=by
 obtain ⟨β,fr,frs,w,rfl,hFs,hH,hG,hl⟩:=hM.ex
 obtain ⟨hkeep,hnd,hlen,hgf,hgh⟩:=h
 generalize hf:q8a names s.heap.length=f at hgf hgh
 have hlt:∀ j,j<names.length->names[j]? = some (f j):=fun j hj=>by rw [← hf]; exact qav hj
 have hge:∀ j,names.length<=j->f j=s.heap.length+j:=fun j hj=>by rw [← hf]; exact q16 hj
 have hid:∀ j,j<k0->f j=j:=fun j hj=>by
  have h1:=hkeep j hj
  have h2:=(List.getElem?_eq_some_iff.1 h1).1
  rw [hlt j h2] at h1; exact Option.some.inj h1
 have hinj:∀ i j,i<names.length->j<names.length->f i=f j->i=j:=fun i j hi hj he=>by
  have h1:=hlt i hi
  have h2:=hlt j hj
  rw [he] at h1
  exact (List.getElem?_inj hi hnd).1 (h1.trans h2.symm)
 let J:Junk:=⟨fun i k=>(((fr::frs)[i]?).bind fun g=>g.tmps.toList[k]?).getD undef,fun j k=>((β (f j)).bind fun l=>match w.heap[l.blk]? with | some (.loop r)=>r.tmps.toList[k]? | _=>none).getD undef⟩
 have hent:∀ j e,(qpj J.hp C.heap 0)[j]? = some e->∃ E:HP,C.heap[j]? = some E/\e=E.fill (J.hp j):=fun j e he=>by
  rw [qxs,Nat.zero_add] at he
  cases hE:C.heap[j]? with
  | none=>rw [hE] at he; cases he
  | some E=>rw [hE] at he; exact ⟨E,rfl,(Option.some.inj he).symm⟩
 have hjl:∀ j E,C.heap[j]? = some E->j<names.length:=fun j E h=>by rw [hlen]; exact (List.getElem?_eq_some_iff.1 h).1
 refine ⟨J,⟨fun n=>β (f n),fr,frs,w,rfl,?_,⟨⟨?_,?_,?_,hH.keep⟩,?_⟩,⟨?_,?_⟩,hl⟩⟩
 . refine q8k rfl hFs hgf fun i g hi k x hk => ?_
   show (((fr::frs)[0+i]?).bind fun g=>g.tmps.toList[k]?).getD undef=x
   rw [Nat.zero_add,hi]
   show (g.tmps.toList[k]?).getD undef=x
   rw [hk]; rfl
 . intro j e he
   obtain ⟨E,hE,rfl⟩:=hent j e he
   have hg:=hgh j E hE
   have hold:=hH.entries (f j)
   cases E with
   | ent E =>
     cases E with
     | own c wh el =>
       obtain ⟨c0,h1,hi⟩:=hg
       obtain ⟨l,vs,rest,lo,hi2,hl2,h0,hc,hh,hz,hw,hcap⟩:=hold _ h1
       exact ⟨l,vs,rest,lo,hi2,hl2,h0,Cells.den_ren f (hi _ _ hc),hh,hz,hw,hcap⟩
     | row c =>
       obtain ⟨c0,h1,hi⟩:=hg
       obtain ⟨l,vs,hl2,hc,hx⟩:=hold _ h1
       exact ⟨l,vs,hl2,Cells.den_ren f (hi _ _ hc),hx⟩
     | loop=>exact hg.elim
     | deferred ds =>
       obtain ⟨l,ds',hl2,hd,hh⟩:=hold _ hg
       refine ⟨l,ds',hl2,?_,hh⟩
       cases ds with
       | none=>exact hd
       | some ds =>
         have hd:(SD.denL β (ds.map (SD.ren f))).map some=some ds':=hd
         rw [SD.denL_ren] at hd; exact hd
     | gone=>trivial
     | obj o =>
       obtain ⟨o0,h1,hi⟩:=hg
       obtain ⟨l,x,hl2,h0,hd,hh⟩:=hold _ h1
       refine ⟨l,x,hl2,h0,?_,hh⟩
       rw [← SObj.den_ren]
       exact hi _ _ hd
   | loop st p g T ps a b d =>
     obtain ⟨T0,h1,hT⟩:=hg
     obtain ⟨l,ld,Ts,hl2,hd,hTs,hh⟩:=hold _ h1
     refine ⟨l,ld,Ts,hl2,hd,?_,hh⟩
     refine q5j rfl hTs hT fun k x hk => ?_
     show ((β (f j)).bind fun l=>_).getD undef=x
     rw [hl2]
     simp only [Option.bind_some,hh,Nat.zero_add,hk]
     rfl
 . intro i j e e' l l' hi hj ho ho' hij hl1 hl2
   obtain ⟨E,hE,rfl⟩:=hent i e hi
   obtain ⟨E',hE',rfl⟩:=hent j e' hj
   obtain ⟨e0,h1,h2⟩:=HP.owned_fill (hgh i E hE) ho
   obtain ⟨e1,h3,h4⟩:=HP.owned_fill (hgh j E' hE') ho'
   exact hH.sep (f i) (f j) e0 e1 l l' h1 h3 h2 h4 (fun he=>hij (hinj i j (hjl i E hE) (hjl j E' hE') he)) hl1 hl2
 . intro j e l he ho hl1
   obtain ⟨E,hE,rfl⟩:=hent j e he
   obtain ⟨e0,h1,h2⟩:=HP.owned_fill (hgh j E hE) ho
   exact hH.fresh (f j) e0 l h1 h2 hl1
 . intro n hn
   have hn:(qpj J.hp C.heap 0).length<=n:=hn
   rw [q3m,← hlen] at hn
   show β (f n)=none
   rw [hge n hn]
   exact hH.bound _ (Nat.le_add_right _ _)
 . intro g nm hg
   obtain ⟨l,h1,h2⟩:=hG.glob g nm hg
   exact ⟨l,by show β (f nm)=some l; rw [hid nm (hB.glob g nm hg)]; exact h1,h2⟩
 . intro n l hn
   show β (f n)=some l
   by_cases hk:n<k0
   . rw [hid n hk]; exact hG.fix n l hn
   . rw [hB.fix n (by omega)] at hn; cases hn
def qti {A:Type} (k0:Nat) (C:A->Cut) (Q:A->Prop) (s:SS):Prop:=∀ B m,BaseOK k0 B->MRel B s m->∃ a J,Q a/\MRel B ((C a).fill J) m
theorem qfm {A:Type} {k0:Nat} {C:A->Cut} {Q:A->Prop} {s:SS} (a:A) (hq:Q a) (names:List Nat) (h:Gen k0 s (C a) names):qti k0 C Q s :=
 fun _ _ hB hM=>let ⟨J,hJ⟩:=jrd hB h hM; ⟨a,J,hq,hJ⟩
def Cfg.at (c:Cfg) (st:Option (Nat × Nat)):Cfg:={ P:=c.P,glob:=c.glob,sums:=c.sums,stopAt:=st,dsum:=c.dsum }
theorem CfgOK.at {c:Cfg} (hc:CfgOK c) (st:Option (Nat × Nat)):CfgOK (c.at st):=⟨hc.prog,hc.sums,hc.dsum⟩
theorem q26 {c:Cfg} (hc:CfgOK c) {B:Base} {k0:Nat} (hB:BaseOK k0 B) (hP:B.P=c.P) (hgl:B.glob=c.glob) {A:Type} (C:A->Cut) (OK:A->Prop) (μ:A->Nat) {D:SV->List SO->Prop}
  (hs:∀ a,OK a->∀ J,∃ st n,(sim1 (c.at st) n ((C a).fill J)).Ob D (qti k0 C fun a'=>OK a'/\μ a'<μ a)) :
  ∀ (k:Nat) (a:A) (J:Junk) (m:Machine),μ a<k->OK a->MRel B ((C a).fill J) m->∃ m' v H,Steps B.P m m'/\D v H/\DoneRel B v H m':=by
 intro k
 induction k with
 | zero=>intro a J m h; omega
 | succ k ih =>
   intro a J m hk ha hM
   obtain ⟨st,n,hs'⟩:=hs a ha J
   obtain ⟨m1,hst,⟨v,H,hD,hdone⟩ | ⟨s,hS,hM1⟩⟩:=q03 (B:=B) (hc.at st) hP hgl hM hs'
   . exact ⟨m1,v,H,hst,hD,hdone⟩
   . obtain ⟨a',J',⟨ha',hμ⟩,hM2⟩:=hS B m1 hB hM1
     obtain ⟨m2,v,H,hst2,hD,hdone⟩:=ih a' J' m1 (by omega) ha' hM2
     exact ⟨m2,v,H,hst.trans hst2,hD,hdone⟩
def Runs (c:Cfg) (f:FuncId) (args:List SV) (H:List SO) (D:SV->List SO->Prop):Prop :=
 (∃ fn,c.P.funcs[f]? = some fn/\fn.body.isSome=true)/\∀ (O:Nat->Prop) (w0 w:World) (β:Val) (vs:List Value),HeapRel c.P O w0 β H w->GlobRel c.glob β->SV.denL β args=some vs->Calls c.P f vs.toArray w (Came c.P O w0 β D)
theorem q5o {c:Cfg} (hc:CfgOK c) {n:Nat} {f:FuncId} {args:List SV} {H:List SO} {D:SV->List SO->Prop} (hob:(qka c n f args H).Ob D fun _=>False):Runs c f args H D:=by
 refine ⟨?_,fun O w0 w β vs hH hG ha=>qwq hc hH hG ha hob⟩
 unfold qka at hob
 cases hg:q1d c.P f args with
 | none=>rw [hg] at hob; exact hob.elim
 | some g=>exact qmk hg
theorem q36 {c:Cfg} (hc:CfgOK c) {A:Type} (C:A->Cut) (OK:A->Prop) (μ:A->Nat) {D:SV->List SO->Prop} {f:FuncId} {args:List SV} {H:List SO} (hgl:∀ g nm,c.glob g=some nm->nm<H.length)
  (h0:∃ st n,(qka (c.at st) n f args H).Ob D (qti H.length C OK))
  (hs:∀ a,OK a->∀ J,∃ st n,(sim1 (c.at st) n ((C a).fill J)).Ob D (qti H.length C fun a'=>OK a'/\μ a'<μ a)):Runs c f args H D:=by
 obtain ⟨st0,n0,h0⟩:=h0
 unfold qka at h0
 cases hg:q1d (c.at st0).P f args with
 | none=>rw [hg] at h0; exact h0.elim
 | some g =>
   rw [hg] at h0
   refine ⟨qmk hg,fun O w0 w β vs hH hG ha cs => ?_⟩
   have hB:BaseOK H.length ⟨c.P,c.glob,O,w0,cs,f,β⟩:=⟨hH.bound,hgl⟩
   have hend:∀ m v H',Steps c.P (lone (Frame.enter c.P f vs.toArray .normal) cs w) m->D v H'->DoneRel ⟨c.P,c.glob,O,w0,cs,f,β⟩ v H' m ->
     ∃ e w' b,Came c.P O w0 β D e w'/\Comes c.P (lone (Frame.enter c.P f vs.toArray .normal) cs w) (lone b cs w') e/\b.fn=f/\b.leaving c.P w' e:=by
    intro m v H' hst hD hdone
    obtain ⟨β',fr,x,w',rfl,hfn,hleave,hv,hH',hG'⟩:=hdone.ex
    exact ⟨.returned x,w',fr,⟨v,H',x,β',rfl,hD,hG'.fix,hv,hH'⟩,hst,hfn,hleave⟩
   obtain ⟨m1,hst,⟨v,H',hD,hdone⟩ | ⟨s,hS,hM1⟩⟩:=q6n (B:=⟨c.P,c.glob,O,w0,cs,f,β⟩) (hc.at st0) rfl rfl n0 _ _ (qqs (c:=c) hH hG ha hg cs) h0
   . exact hend m1 v H' hst hD hdone
   . obtain ⟨a,J,ha',hM2⟩:=hS _ _ hB hM1
     obtain ⟨m2,v,H',hst2,hD,hdone⟩:=q26 hc hB rfl rfl C OK μ hs (μ a+1) a J m1 (Nat.lt_succ_self _) ha' hM2
     exact hend m2 v H' (hst.trans hst2) hD hdone
end
noncomputable section
variable {α:Type}
def seeT (vs:List SV):List (Option SV)->List (Option SV) :=
 List.rec (motive:=fun _=>List (Option SV)->List (Option SV)) (fun _=>[]) (fun v _ ih T=>List.rec (motive:=fun _=>List (Option SV)) (some v::ih []) (fun o r _=>optC o none (fun _=>some v)::ih r) T) vs
def seeF (s:SF) (p:SP):SP:=⟨s.fn,seeT s.tmps p.tmps,s.todo,s.defers,s.roundOf⟩
def qnw (ss:List SF):List SP->List SP :=
 List.rec (motive:=fun _=>List SP->List SP) (fun _=>[]) (fun s _ ih ps=>List.rec (motive:=fun _=>List SP) (⟨s.fn,seeT s.tmps [],s.todo,s.defers,s.roundOf⟩::ih []) (fun p r _=>seeF s p::ih r) ps) ss
def seeL (e:SO) (T:List (Option SV)):HP:=SO.rec (motive:=fun _=>HP) (fun c w el=>.ent (.own c w el)) (fun c=>.ent (.row c)) (fun s p f T0 ps a b d=>.loop s p f (seeT T0 T) ps a b d) (fun ds=>.ent (.deferred ds)) (.ent .gone) (fun o=>.ent (.obj o)) e
def qys (e:SO):Bool:=SO.rec (motive:=fun _=>Bool) (fun _ _ _=>false) (fun _=>false) (fun _ _ _ _ _ _ _ _=>false) (fun _=>false) true (fun _=>false) e
def seeE (e:Option SO) (E:HP):Option HP:=HP.rec (motive:=fun _=>Option HP) (fun E0=>boolC (qys E0) (some (.ent .gone)) (optC e none fun e=>some (.ent e))) (fun _ _ _ T _ _ _ _=>optC e none fun e=>some (seeL e T)) E
def q53 (H:List SO) (names:List Nat):List HP->List (Option HP) :=
 List.rec (motive:=fun _=>List HP->List (Option HP)) (fun _=>[]) (fun n _ ih Es=>List.rec (motive:=fun _=>List (Option HP)) [] (fun E r _=>seeE (nth H n) E::ih r) Es) names
abbrev Seen:=List SP × Nat × List (Option HP)
def qui (M:Cut) (names:List Nat) (s:SS):Seen:=(qnw s.frames M.frames,lenN s.heap,q53 s.heap names M.heap)
def renT (f:Nat->Nat) (T:List (Option SV)):List (Option SV):=mapN (fun o=>optC o none fun v=>some (v.ren f)) T
def SP.ren (f:Nat->Nat) (p:SP):SP:=⟨p.fn,renT f p.tmps,mapN (SItem.ren f) p.todo,mapN (SD.ren f) p.defers,optC p.roundOf none fun n=>some (f n)⟩
def HP.ren (f:Nat->Nat) (E:HP):HP :=
 HP.rec (motive:=fun _=>HP) (fun e=>SO.rec (motive:=fun _=>HP) (fun c w el=>.ent (.own (c.ren f) w el)) (fun c=>.ent (.row (c.ren f))) (fun s p g T ps a b d=>.ent (.loop s p g T ps a b d)) (fun ds=>.ent (.deferred (optC ds none fun l=>some (mapN (SD.ren f) l)))) (.ent .gone) (fun o=>.ent (.obj (o.ren f))) e)
  (fun s p g T ps a b d=>.loop s p g (renT f T) ps a b (f d)) E
def q2a (names:List Nat) (N:Nat) (C:Cut):Seen:=(mapN (SP.ren (q8a names N)) C.frames,N,mapN (fun E=>some (E.ren (q8a names N))) C.heap)
def ImpT (f:Nat->Nat):List (Option SV)->List (Option SV)->Prop
 | some v::vs,some u::us=>v.Imp (u.ren f)/\ImpT f vs us
 | none::vs,none::us=>ImpT f vs us
 | [],[]=>True
 | _,_=>False
structure ImpF (f:Nat->Nat) (s p:SP):Prop where
 fn:s.fn=p.fn
 tmps:ImpT f s.tmps p.tmps
 todo:s.todo=p.todo.map (SItem.ren f)
 defers:s.defers=p.defers.map (SD.ren f)
 roundOf:s.roundOf=p.roundOf.map f
def qzg (f:Nat->Nat):List SP->List SP->Prop
 | s::ss,p::ps=>ImpF f s p/\qzg f ss ps
 | [],[]=>True
 | _,_=>False
def ImpE (f:Nat->Nat) (e:Option HP) (E:HP):Prop :=
 match E with
 | .ent (.own c w el)=>∃ c0,e=some (.ent (.own c0 w el))/\c0.Imp (c.ren f)
 | .ent (.row c)=>∃ c0,e=some (.ent (.row c0))/\c0.Imp (c.ren f)
 | .ent (.deferred ds)=>e=some (.ent (.deferred (ds.map (List.map (SD.ren f)))))
 | .ent (.obj o)=>∃ o0,e=some (.ent (.obj o0))/\o0.Imp (o.ren f)
 | .ent .gone=>True
 | .ent (.loop ..)=>False
 | .loop s p g T ps a b d=>∃ T0,e=some (.loop s p g T0 ps a b (f d))/\ImpT f T0 T
def qvi (f:Nat->Nat):List (Option HP)->List HP->Prop
 | e::es,E::Es=>ImpE f e E/\qvi f es Es
 | [],[]=>True
 | _,_=>False
theorem qhh {f:Nat->Nat}:∀ {vs:List SV} {Tm T:List (Option SV)},ImpT f (seeT vs Tm) T->GenT f vs T
 | [],_,[],_=>trivial
 | [],_,_::_,h=>by cases h
 | v::vs,[],T,h=>by
   have h:ImpT f (some v::seeT vs []) T:=h
   cases T with
   | nil=>exact h.elim
   | cons u us=>cases u with
     | none=>exact h.elim
     | some u=>exact ⟨h.1,qhh h.2⟩
 | v::vs,o::Tm,T,h=>by
   have h:ImpT f (optC o none (fun _=>some v)::seeT vs Tm) T:=h
   cases T with
   | nil=>cases o <;> exact h.elim
   | cons u us =>
     cases o with
     | none=>cases u with
       | none=>exact qhh (Tm:=Tm) (T:=us) h
       | some u=>exact h.elim
     | some o=>cases u with
       | none=>exact h.elim
       | some u=>exact ⟨h.1,qhh (Tm:=Tm) (T:=us) h.2⟩
theorem q8n {f:Nat->Nat}:∀ {ss:List SF} {pm ps:List SP},qzg f (qnw ss pm) ps->qmw f ss ps
 | [],_,[],_=>trivial
 | [],_,_::_,h=>by cases h
 | s::ss,[],ps,h=>by
   have h:qzg f (⟨s.fn,seeT s.tmps [],s.todo,s.defers,s.roundOf⟩::qnw ss []) ps:=h
   cases ps with
   | nil=>exact h.elim
   | cons p ps =>
     obtain ⟨⟨h1,h2,h3,h4,h5⟩,hr⟩:=h
     exact ⟨⟨h1,qhh h2,h3,h4,h5⟩,q8n hr⟩
 | s::ss,q::pm,ps,h=>by
   have h:qzg f (seeF s q::qnw ss pm) ps:=h
   cases ps with
   | nil=>exact h.elim
   | cons p ps =>
     obtain ⟨⟨h1,h2,h3,h4,h5⟩,hr⟩:=h
     exact ⟨⟨h1,qhh h2,h3,h4,h5⟩,q8n hr⟩
theorem qm9 {f:Nat->Nat} {e:Option SO} {Em E:HP} (h:ImpE f (seeE e Em) E):GenE f e E:=by
 have hent:∀ {e:Option SO} {e0:SO},e0≠.gone->(∀ s p g T ps a b d,e0≠.loop s p g T ps a b d)->seeE e Em=some (.ent e0)->e=some e0:=by
  intro e e0 hng hnl h
  cases Em with
  | ent Em =>
    have h:boolC (qys Em) (some (.ent .gone)) (optC e none fun e=>some (HP.ent e))=some (.ent e0):=h
    cases hb:qys Em with
    | true=>rw [hb] at h; exact absurd (HP.ent.inj (Option.some.inj h)).symm hng
    | false =>
      rw [hb] at h
      cases e with
      | none=>cases h
      | some e=>rw [(HP.ent.inj (Option.some.inj h))]
  | loop s p g T ps a b d =>
    cases e with
    | none=>cases h
    | some e =>
      have h:some (seeL e T)=some (HP.ent e0):=h
      have h:=Option.some.inj h
      cases e with
      | loop=>cases h
      | gone=>exact absurd (HP.ent.inj h).symm hng
      | own=>rw [← HP.ent.inj h]
      | row=>rw [← HP.ent.inj h]
      | deferred=>rw [← HP.ent.inj h]
      | obj=>rw [← HP.ent.inj h]
 cases E with
 | ent E =>
   cases E with
   | own c w el=>obtain ⟨c0,h1,h2⟩:=h; exact ⟨c0,hent (by simp) (by simp) h1,h2⟩
   | row c=>obtain ⟨c0,h1,h2⟩:=h; exact ⟨c0,hent (by simp) (by simp) h1,h2⟩
   | deferred ds=>exact hent (by simp) (by simp) h
   | obj o=>obtain ⟨o0,h1,h2⟩:=h; exact ⟨o0,hent (by simp) (by simp) h1,h2⟩
   | gone=>trivial
   | loop=>exact h.elim
 | loop s p g T ps a b d =>
   obtain ⟨T0,h1,h2⟩:=h
   cases Em with
   | ent Em =>
     have h:boolC (qys Em) (some (.ent .gone)) (optC e none fun e=>some (HP.ent e))=some (.loop s p g T0 ps a b (f d)):=h1
     cases hb:qys Em with
     | true=>rw [hb] at h; cases h
     | false=>rw [hb] at h; cases e <;> cases h
   | loop s' p' g' Tm ps' a' b' d' =>
     cases e with
     | none=>cases h1
     | some e =>
       have h1:some (seeL e Tm)=some (HP.loop s p g T0 ps a b (f d)):=h1
       have h1:=Option.some.inj h1
       cases e with
       | loop s1 p1 g1 T1 ps1 a1 b1 d1 =>
         have h1:HP.loop s1 p1 g1 (seeT T1 Tm) ps1 a1 b1 d1=.loop s p g T0 ps a b (f d):=h1
         injection h1 with e1 e2 e3 e4 e5 e6 e7 e8
         subst e1 e2 e3 e4 e5 e6 e7 e8
         exact ⟨T1,rfl,qhh h2⟩
       | own=>cases h1
       | row=>cases h1
       | deferred=>cases h1
       | gone=>cases h1
       | obj=>cases h1
theorem qbv {f:Nat->Nat} {H:List SO}:∀ {names:List Nat} {Em Es:List HP},qvi f (q53 H names Em) Es->Em.length=names.length->∀ (j:Nat) (E:HP) (n:Nat),Es[j]? = some E->names[j]? = some n->GenE f H[n]? E
 | [],_,[],_,_,_,_,_,h,_=>by simp at h
 | [],_,_::_,h,_,_,_,_,_,_=>h.elim
 | n::names,[],_,_,hl,_,_,_,_,_=>by simp at hl
 | n::names,Em::Ems,Es,h,hl,j,E,m,hE,hm=>by
   have h:qvi f (seeE (nth H n) Em::q53 H names Ems) Es:=h
   cases Es with
   | nil=>exact h.elim
   | cons E0 Es =>
     cases j with
     | zero =>
       simp at hE hm
       subst hE hm
       have:=qm9 h.1
       rwa [qda] at this
     | succ j=>exact qbv h.2 (by simpa using hl) j E m (by simpa using hE) (by simpa using hm)
theorem qgm (f:Nat->Nat):∀ T:List (Option SV),ImpT f (renT f T) T
 | []=>trivial
 | some _::T=>⟨.refl _,qgm f T⟩
 | none::T=>qgm f T
theorem q6j (f:Nat->Nat):∀ ps:List SP,qzg f (mapN (SP.ren f) ps) ps
 | []=>trivial
 | p::ps=>⟨⟨rfl,qgm f _,by show mapN _ _=_; rw [qla],by show mapN _ _=_; rw [qla],by show optC p.roundOf none _=_; cases p.roundOf <;> rfl⟩,q6j f ps⟩
theorem qn9 (f:Nat->Nat) (E:HP) (h:∀ s p g T ps a b d,E≠.ent (.loop s p g T ps a b d)):ImpE f (some (E.ren f)) E:=by
 cases E with
 | ent e =>
   cases e with
   | own c w el=>exact ⟨_,rfl,.refl _⟩
   | row c=>exact ⟨_,rfl,.refl _⟩
   | deferred ds =>
     show some (HP.ent (.deferred (optC ds none fun l=>some (mapN (SD.ren f) l))))=_
     cases ds with
     | none=>rfl
     | some l=>rw [optC_some,qla]; rfl
   | gone=>trivial
   | obj o=>exact ⟨_,rfl,fun _ _ h=>h⟩
   | loop=>exact absurd rfl (h _ _ _ _ _ _ _ _)
 | loop s p g T ps a b d=>exact ⟨_,rfl,qgm f T⟩
def qva (E:HP):Bool:=HP.rec (motive:=fun _=>Bool) (fun e=>SO.rec (motive:=fun _=>Bool) (fun _ _ _=>true) (fun _=>true) (fun _ _ _ _ _ _ _ _=>false) (fun _=>true) true (fun _=>true) e) (fun _ _ _ _ _ _ _ _=>true) E
theorem q7j (f:Nat->Nat):∀ Es:List HP,allN qva Es=true->qvi f (mapN (fun E=>some (E.ren f)) Es) Es
 | [],_=>trivial
 | E::Es,h=>by
   have h':=qzj _ _ h
   refine ⟨qn9 f E fun s p g T ps a b d he => ?_,q7j f Es ?_⟩
   . have:=h' E List.mem_cons_self
     rw [he] at this; cases this
   . have h:boolC (qva E) (allN qva Es) false=true:=h
     cases hb:qva E with
     | true=>rw [hb] at h; exact h
     | false=>rw [hb] at h; cases h
def qoy (l:List Nat):Bool:=List.rec (motive:=fun _=>Bool) true (fun a r ih=>boolC (memN a r) false ih) l
def q63 (l:List Nat):Nat->Nat->Bool:=List.rec (motive:=fun _=>Nat->Nat->Bool) (fun k i=>Nat.ble k i) (fun a _ ih k i=>boolC (Nat.ble k i) true (boolC (Nat.beq a i) (ih k (Nat.succ i)) false)) l
def q0a (k0:Nat) (names:List Nat) (M C:Cut):Bool:=boolC (qoy names) (boolC (q63 names k0 0) (boolC (Nat.beq (lenN names) (lenN C.heap)) (Nat.beq (lenN names) (lenN M.heap)) false) false) false
theorem q2p:∀ l:List Nat,qoy l=true->l.Nodup
 | [],_=>by simp
 | a::r,h=>by
   have h:boolC (memN a r) false (qoy r)=true:=h
   cases hm:memN a r with
   | true=>rw [hm] at h; cases h
   | false =>
     rw [hm] at h
     refine List.nodup_cons.2 ⟨fun hin => ?_,q2p r h⟩
     rw [memN_iff.2 hin] at hm; cases hm
theorem qzs:∀ (l:List Nat) (k i:Nat),q63 l k i=true->∀ j,i+j<k->l[j]? = some (i+j)
 | [],k,i,h,j,hj=>by
   have:=Nat.le_of_ble_eq_true (show Nat.ble k i=true from h)
   omega
 | a::r,k,i,h,j,hj=>by
   have h:boolC (Nat.ble k i) true (boolC (Nat.beq a i) (q63 r k (i+1)) false)=true:=h
   cases hk:Nat.ble k i with
   | true=>have:=Nat.le_of_ble_eq_true hk; omega
   | false =>
     rw [hk,boolC_false] at h
     cases ha:Nat.beq a i with
     | false=>rw [ha] at h; cases h
     | true =>
       rw [ha] at h
       have:=Nat.eq_of_beq_eq_true ha
       subst this
       cases j with
       | zero=>rfl
       | succ j =>
         have:=qzs r k (a+1) h j (by omega)
         rw [List.getElem?_cons_succ,this]
         congr 1; omega
theorem q0g {b:Bool} {t:Bool} (h:boolC b t false=true):b=true/\t=true:=by cases b <;> first | exact ⟨rfl,h⟩ | cases h
theorem qxq {k0:Nat} {s:SS} {C M:Cut} {names:List Nat} {F:List SP} {N:Nat} {es:List (Option HP)} (hv:qui M names s=(F,N,es)) (hn:q0a k0 names M C=true) (hF:qzg (q8a names N) F C.frames) (hE:qvi (q8a names N) es C.heap):Gen k0 s C names:=by
 obtain ⟨h1,h2⟩:=Prod.mk.inj (show (_,_,_)=(F,N,es) from hv)
 obtain ⟨h2,h3⟩:=Prod.mk.inj h2
 rw [qga] at h2
 obtain ⟨n1,n2⟩:=q0g hn
 obtain ⟨n2,n3⟩:=q0g n2
 obtain ⟨n3,n4⟩:=q0g n3
 have l1:=Nat.eq_of_beq_eq_true n3
 have l2:=Nat.eq_of_beq_eq_true n4
 rw [qga,qga] at l1 l2
 subst h2
 refine ⟨fun j hj => ?_,q2p _ n1,l1,?_,fun j E hj => ?_⟩
 . have:=qzs names k0 0 n2 j (by omega)
   rwa [Nat.zero_add] at this
 . rw [← h1] at hF; exact q8n hF
 . rw [← h3] at hE
   have hlt:j<names.length:=by rw [l1]; exact (List.getElem?_eq_some_iff.1 hj).1
   exact qbv hE l2.symm j E _ hj (qav hlt)
theorem qo9 {k0:Nat} {s:SS} {C M:Cut} {names:List Nat} {N:Nat} (hv:qui M names s=q2a names N C) (hn:boolC (q0a k0 names M C) (allN qva C.heap) false=true):Gen k0 s C names :=
 qxq hv (q0g hn).1 (q6j _ _) (q7j _ _ (q0g hn).2)
def qlf (i:Nat) (E:HP) (V:Seen):Seen:=(V.1,V.2.1,setN V.2.2 i (some E))
theorem q9n {f:Nat->Nat}:∀ {es:List (Option HP)} {Es:List HP} (i:Nat) {E:HP},qvi f es Es->(∀ E0,Es[i]? = some E0->ImpE f (some E) E0)->qvi f (setN es i (some E)) Es
 | [],[],_,_,_,_=>trivial
 | e::es,E0::Es,0,E,h,h0=>⟨h0 E0 rfl,h.2⟩
 | e::es,E0::Es,i+1,E,h,h0=>⟨h.1,q9n i h.2 fun E1 h1=>h0 E1 (by simpa using h1)⟩
 | [],_::_,_,_,h,_=>h.elim
 | _::_,[],_,_,h,_=>h.elim
theorem jsd {k0:Nat} {s:SS} {C M:Cut} {names:List Nat} {N i:Nat} {E:HP} (hv:qui M names s=qlf i E (q2a names N C)) (hn:boolC (q0a k0 names M C) (allN qva C.heap) false=true) (hE:∀ E0,C.heap[i]? = some E0->ImpE (q8a names N) (some E) E0):Gen k0 s C names :=
 qxq hv (q0g hn).1 (q6j _ _) (q9n i (q7j _ _ (q0g hn).2) hE)
def setF (p:SP) (j:Nat) (v:SV):SP:=⟨p.fn,setN p.tmps j (some v),p.todo,p.defers,p.roundOf⟩
def q1g (i j:Nat) (v:SV) (V:Seen):Seen:=(optC (nth V.1 i) V.1 fun p=>setN V.1 i (setF p j v),V.2.1,V.2.2)
def qtc (ms:List (Nat × Nat × SV)) (es:List (Nat × HP)) (V:Seen):Seen :=
 List.rec (motive:=fun _=>Seen) (List.rec (motive:=fun _=>Seen) V (fun m _ ih=>q1g m.1 m.2.1 m.2.2 ih) ms) (fun e _ ih=>qlf e.1 e.2 ih) es
theorem qyq {f:Nat->Nat}:∀ {vs us:List (Option SV)} (j:Nat) {v:SV},ImpT f vs us->(∀ u,us[j]? = some u->∃ w,u=some w/\v.Imp (w.ren f))->ImpT f (setN vs j (some v)) us
 | some _::vs,some u::us,0,v,h,h0=>let ⟨w,e,hw⟩:=h0 _ rfl; ⟨by cases e; exact hw,h.2⟩
 | none::vs,none::us,0,v,h,h0=>let ⟨_,e,_⟩:=h0 _ rfl; by cases e
 | some _::vs,some u::us,j+1,v,h,h0=>⟨h.1,qyq j h.2 fun w hw=>h0 w (by simpa using hw)⟩
 | none::vs,none::us,j+1,v,h,h0=>qyq (vs:=vs) (us:=us) j h fun w hw=>h0 w (by simpa using hw)
 | [],[],_,_,_,_=>trivial
 | some _::_,none::_,_,_,h,_=>h.elim
 | none::_,some _::_,_,_,h,_=>h.elim
 | [],_::_,_,_,h,_=>h.elim
 | some _::_,[],_,_,h,_=>False.elim h
 | none::_,[],_,_,h,_=>False.elim h
theorem qcv {f:Nat->Nat}:∀ {ss ps:List SP} (i j:Nat) {v:SV} {s:SP},qzg f ss ps->ss[i]? = some s->(∀ p u,ps[i]? = some p->p.tmps[j]? = some u->∃ w,u=some w/\v.Imp (w.ren f))->qzg f (setN ss i (setF s j v)) ps
 | s0::ss,p::ps,0,j,v,s,h,hs,h0=>by
   simp at hs; subst hs
   obtain ⟨⟨h1,h2,h3,h4,h5⟩,hr⟩:=h
   exact ⟨⟨h1,qyq j h2 fun u hu=>h0 p u rfl hu,h3,h4,h5⟩,hr⟩
 | s0::ss,p::ps,i+1,j,v,s,h,hs,h0=>⟨h.1,qcv i j h.2 (by simpa using hs) fun q u hq hu=>h0 q u (by simpa using hq) hu⟩
 | [],_,_,_,_,_,_,hs,_=>by simp at hs
 | _::_,[],_,_,_,_,h,_,_=>h.elim
theorem q30 {k0:Nat} {s:SS} {C M:Cut} {names:List Nat} {N:Nat} (ms:List (Nat × Nat × SV)) (es:List (Nat × HP)) (hv:qui M names s=qtc ms es (q2a names N C)) (hn:boolC (q0a k0 names M C) (allN qva C.heap) false=true)
  (hT:∀ m∈ms,∀ p u,C.frames[m.1]? = some p->p.tmps[m.2.1]? = some u->∃ w,u=some w/\m.2.2.Imp (w.ren (q8a names N))) (hE:∀ e∈es,∀ E0,C.heap[e.1]? = some E0->ImpE (q8a names N) (some e.2) E0):Gen k0 s C names:=by
 have key:∀ ms:List (Nat × Nat × SV),(∀ m∈ms,∀ p u,C.frames[m.1]? = some p->p.tmps[m.2.1]? = some u->∃ w,u=some w/\m.2.2.Imp (w.ren (q8a names N))) ->
   qzg (q8a names N) (List.rec (motive:=fun _=>Seen) (q2a names N C) (fun m _ ih=>q1g m.1 m.2.1 m.2.2 ih) ms:Seen).1 C.frames/\(List.rec (motive:=fun _=>Seen) (q2a names N C) (fun m _ ih=>q1g m.1 m.2.1 m.2.2 ih) ms:Seen).2=(q2a names N C).2:=by
  intro ms
  induction ms with
  | nil=>intro _; exact ⟨q6j _ _,rfl⟩
  | cons m ms ih =>
    intro h
    obtain ⟨h1,h2⟩:=ih fun x hx=>h x (List.mem_cons_of_mem _ hx)
    generalize hV:(List.rec (motive:=fun _=>Seen) (q2a names N C) (fun m _ ih=>q1g m.1 m.2.1 m.2.2 ih) ms:Seen)=V at h1 h2
    show qzg _ (q1g m.1 m.2.1 m.2.2 (List.rec (motive:=fun _=>Seen) (q2a names N C) (fun m _ ih=>q1g m.1 m.2.1 m.2.2 ih) ms:Seen)).1 _/\(q1g m.1 m.2.1 m.2.2 (List.rec (motive:=fun _=>Seen) (q2a names N C) (fun m _ ih=>q1g m.1 m.2.1 m.2.2 ih) ms:Seen)).2=_
    rw [hV]
    refine ⟨?_,h2⟩
    show qzg _ (optC (nth V.1 m.1) V.1 fun p=>setN V.1 m.1 (setF p m.2.1 m.2.2)) _
    cases hp:nth V.1 m.1 with
    | none=>exact h1
    | some p =>
      rw [qda] at hp
      exact qcv m.1 m.2.1 h1 hp fun q u hq hu=>h m List.mem_cons_self q u hq hu
 obtain ⟨k1,k2⟩:=key ms hT
 have key2:∀ es:List (Nat × HP),(∀ e∈es,∀ E0,C.heap[e.1]? = some E0->ImpE (q8a names N) (some e.2) E0)->∀ V:Seen,V.2=(q2a names N C).2 ->
   (List.rec (motive:=fun _=>Seen) V (fun e _ ih=>qlf e.1 e.2 ih) es:Seen).1=V.1/\(List.rec (motive:=fun _=>Seen) V (fun e _ ih=>qlf e.1 e.2 ih) es:Seen).2.1=N/\qvi (q8a names N) (List.rec (motive:=fun _=>Seen) V (fun e _ ih=>qlf e.1 e.2 ih) es:Seen).2.2 C.heap:=by
  intro es
  induction es with
  | nil =>
    intro _ V hV
    refine ⟨rfl,?_,?_⟩
    . show V.2.1=N; rw [hV]; rfl
    . show qvi _ V.2.2 _; rw [hV]; exact q7j _ _ (q0g hn).2
  | cons e es ih =>
    intro h V hV
    obtain ⟨h1,h2,h3⟩:=ih (fun x hx=>h x (List.mem_cons_of_mem _ hx)) V hV
    exact ⟨h1,h2,q9n e.1 h3 (h e List.mem_cons_self)⟩
 obtain ⟨j1,j2,j3⟩:=key2 es hE _ k2
 unfold qtc at hv
 generalize (List.rec (motive:=fun _=>Seen) (List.rec (motive:=fun _=>Seen) (q2a names N C) (fun m _ ih=>q1g m.1 m.2.1 m.2.2 ih) ms) (fun e _ ih=>qlf e.1 e.2 ih) es:Seen)=V at hv j1 j2 j3
 obtain ⟨F,N',es'⟩:=V
 have j2:N'=N:=j2
 subst j2
 exact qxq hv (q0g hn).1 (by rw [show F=_ from j1]; exact k1) j3
abbrev OutL:=List Prop × Option ((SV × List (Option SO)) ⊕ Seen)
def outL (js:List Nat) (M:Cut) (names:List Nat) (t:Tree):List Bool->(Nat->Nat->Nat)->OutL :=
 Tree.rec (motive:=fun _=>List Bool->(Nat->Nat->Nat)->OutL) (fun v H _ _=>([],some (.inl (v,mapN (fun j=>nth H j) js)))) (fun s _ _=>([],some (.inr (qui M names s)))) (fun p _ ih ds z=>(p::(ih ds z).1,(ih ds z).2))
  (fun b _ _ iht ihf ds z=>List.rec (motive:=fun _=>OutL) ([],none) (fun d r _=>((b=d)::(boolC d (iht r z) (ihf r z)).1,(boolC d (iht r z) (ihf r z)).2)) ds) (fun _ _ _=>([],none)) (fun _ ih ds z=>ih (z 0) ds fun i=>z (i+1)) t
theorem q6o {js:List Nat} {M:Cut} {names:List Nat} {t:Tree} {ds:List Bool} {ps:(Nat->Nat->Nat)->List Prop} {r:(Nat->Nat->Nat)->(SV × List (Option SO)) ⊕ Seen} (h:∀ z,outL js M names t ds z=(ps z,some (r z))) (hp:∀ z,∀ p∈ps z,p) {D:SV->List SO->Prop} {S:SS->Prop}
  (hD:∀ z v es,r z=.inl (v,es)->∀ H:List SO,js.map (fun j=>H[j]?)=es->D v H) (hS:∀ z V,r z=.inr V->∀ s,qui M names s=V->S s):t.Ob D S:=by
 have z0:Nat->Nat->Nat:=fun _ _=>0
 induction t generalizing ps r ds with
 | done v' H =>
   have h':([],some (.inl (v',mapN (fun j=>nth H j) js)))=(ps z0,some (r z0)):=h z0
   have h1:=Option.some.inj (Prod.mk.inj h').2
   refine hD z0 v' _ h1.symm H ?_
   rw [qla]
   exact List.map_congr_left fun j _=>(qda H j).symm
 | stop s =>
   have h':([],some (.inr (qui M names s)))=(ps z0,some (r z0)):=h z0
   have h1:=Option.some.inj (Prod.mk.inj h').2
   exact hS z0 _ h1.symm s rfl
 | need p t ih =>
   have h':∀ z,(p::(outL js M names t ds z).1,(outL js M names t ds z).2)=(ps z,some (r z)):=h
   refine ⟨?_,ih (ds:=ds) (ps:=fun z=>(outL js M names t ds z).1) (r:=r) (fun z=>by rw [← (Prod.mk.inj (h' z)).2]) (fun z q hq=>hp z q ?_) hD hS⟩
   . have:=(Prod.mk.inj (h' z0)).1
     exact hp z0 p (by rw [← this]; exact List.mem_cons_self)
   . rw [← (Prod.mk.inj (h' z)).1]; exact List.mem_cons_of_mem _ hq
 | fork b t f iht ihf =>
   cases ds with
   | nil=>cases (Prod.mk.inj (show ([],none)=(ps z0,some (r z0)) from h z0)).2
   | cons d rs =>
     have h':∀ z,((b=d)::(boolC d (outL js M names t rs z) (outL js M names f rs z)).1,(boolC d (outL js M names t rs z) (outL js M names f rs z)).2)=(ps z,some (r z)):=h
     have hb:b=d:=hp z0 _ (by rw [← (Prod.mk.inj (h' z0)).1]; exact List.mem_cons_self)
     have hq:∀ z,∀ q∈(boolC d (outL js M names t rs z) (outL js M names f rs z)).1,q:=fun z q hq=>hp z q (by rw [← (Prod.mk.inj (h' z)).1]; exact List.mem_cons_of_mem _ hq)
     cases d with
     | true=>exact ⟨fun _=>iht (ds:=rs) (ps:=fun z=>(outL js M names t rs z).1) (r:=r) (fun z=>by rw [← (Prod.mk.inj (h' z)).2]; rfl) hq hD hS,fun hf=>by rw [hf] at hb; cases hb⟩
     | false=>exact ⟨fun ht=>(by rw [ht] at hb; cases hb),fun _=>ihf (ds:=rs) (ps:=fun z=>(outL js M names f rs z).1) (r:=r) (fun z=>by rw [← (Prod.mk.inj (h' z)).2]; rfl) hq hD hS⟩
 | stuck=>cases (Prod.mk.inj (show ([],none)=(ps z0,some (r z0)) from h z0)).2
 | any k ih =>
   have h':∀ z,outL js M names (k (z 0)) ds (fun i=>z (i+1))=(ps z,some (r z)):=h
   intro y
   let c:(Nat->Nat->Nat)->Nat->Nat->Nat:=fun z i=>Nat.rec (motive:=fun _=>Nat->Nat) y (fun j _=>z j) i
   exact ih y (ds:=ds) (ps:=fun z=>ps (c z)) (r:=fun z=>r (c z)) (fun z=>h' (c z)) (fun z=>hp (c z)) (fun z=>hD (c z)) (fun z=>hS (c z))
theorem qdv {A:Type} {k0:Nat} {C:A->Cut} {Q:A->Prop} {js:List Nat} {M:Cut} {names:List Nat} {t:Tree} {ds:List Bool} {ps:List Prop} {N:Nat} {D:SV->List SO->Prop} (a:A) (hq:Q a)
  (h:∀ z,outL js M names t ds z=(ps,some (.inr (q2a names N (C a))))) (hn:boolC (q0a k0 names M (C a)) (allN qva (C a).heap) false=true) (hp:∀ p∈ps,p):t.Ob D (qti k0 C Q) :=
 q6o h (fun _=>hp) (fun _ v es h=>by cases h) fun _ V h s hv=>qfm a hq names (qo9 (N:=N) (by cases h; exact hv) hn)
theorem q73 {A:Type} {k0:Nat} {C:A->Cut} {Q:A->Prop} {js:List Nat} {M:Cut} {names:List Nat} {t:Tree} {ds:List Bool} {ps:List Prop} {N i:Nat} {E:HP} {D:SV->List SO->Prop} (a:A) (hq:Q a)
  (h:∀ z,outL js M names t ds z=(ps,some (.inr (qlf i E (q2a names N (C a)))))) (hn:boolC (q0a k0 names M (C a)) (allN qva (C a).heap) false=true) (hE:∀ E0,(C a).heap[i]? = some E0->ImpE (q8a names N) (some E) E0) (hp:∀ p∈ps,p):t.Ob D (qti k0 C Q) :=
 q6o h (fun _=>hp) (fun _ v es h=>by cases h) fun _ V h s hv=>qfm a hq names (jsd (N:=N) (by cases h; exact hv) hn hE)
theorem q0s {A:Type} {k0:Nat} {C:A->Cut} {Q:A->Prop} {js:List Nat} {M:Cut} {names:List Nat} {t:Tree} {ds:List Bool} {ps:List Prop} {N:Nat} {ms:List (Nat × Nat × SV)} {es:List (Nat × HP)} {D:SV->List SO->Prop} (a:A) (hq:Q a)
  (h:∀ z,outL js M names t ds z=(ps,some (.inr (qtc ms es (q2a names N (C a)))))) (hn:boolC (q0a k0 names M (C a)) (allN qva (C a).heap) false=true)
  (hT:∀ m∈ms,∀ p u,(C a).frames[m.1]? = some p->p.tmps[m.2.1]? = some u->∃ w,u=some w/\m.2.2.Imp (w.ren (q8a names N))) (hE:∀ e∈es,∀ E0,(C a).heap[e.1]? = some E0->ImpE (q8a names N) (some e.2) E0) (hp:∀ p∈ps,p):t.Ob D (qti k0 C Q) :=
 q6o h (fun _=>hp) (fun _ v es h=>by cases h) fun _ V h s hv=>qfm a hq names (q30 (N:=N) ms es (by cases h; exact hv) hn hT hE)
theorem qp9 {js:List Nat} {M:Cut} {names:List Nat} {t:Tree} {ds:List Bool} {ps:List Prop} {v:SV} {es:List (Option SO)} {D:SV->List SO->Prop} {S:SS->Prop}
  (h:∀ z,outL js M names t ds z=(ps,some (.inl (v,es)))) (hp:∀ p∈ps,p) (hD:∀ H:List SO,js.map (fun j=>H[j]?)=es->D v H):t.Ob D S :=
 q6o h (fun _=>hp) (fun _ v' es' h=>by cases h; exact hD) fun _ V h=>by cases h
def q6d {A:Type} (c:Cfg) (k0:Nat) (C:A->Cut) (Q:A->Prop) (D:SV->List SO->Prop) (s:SS):Prop:=∃ st n,(sim1 (c.at st) n s).Ob D (qti k0 C Q)
theorem qgc {A:Type} {c:Cfg} {k0:Nat} {C:A->Cut} {Q:A->Prop} {D:SV->List SO->Prop} {s:SS} (st:Option (Nat × Nat)) (n:Nat) {M:Cut} {names:List Nat} {ds:List Bool} {ps:List Prop} {N:Nat} (a:A) (hq:Q a)
  (h:∀ z,outL [] M names (sim1 (c.at st) n s) ds z=(ps,some (.inr (q2a names N (C a))))) (hn:boolC (q0a k0 names M (C a)) (allN qva (C a).heap) false=true) (hp:∀ p∈ps,p):q6d c k0 C Q D s:=⟨st,n,qdv a hq h hn hp⟩
theorem qdd {A:Type} {c:Cfg} {k0:Nat} {C:A->Cut} {Q:A->Prop} {D:SV->List SO->Prop} {s:SS} (st:Option (Nat × Nat)) (n:Nat) {M:Cut} {names js:List Nat} {ds:List Bool} {ps:List Prop} {v:SV} {es:List (Option SO)}
  (h:∀ z,outL js M names (sim1 (c.at st) n s) ds z=(ps,some (.inl (v,es)))) (hp:∀ p∈ps,p) (hD:∀ H:List SO,js.map (fun j=>H[j]?)=es->D v H):q6d c k0 C Q D s:=⟨st,n,qp9 h hp hD⟩
theorem qih {A:Type} {c:Cfg} {k0:Nat} {C:A->Cut} {Q:A->Prop} {D:SV->List SO->Prop} {s:SS} (st:Option (Nat × Nat)) (n:Nat) {M:Cut} {names:List Nat} {ds:List Bool} {ps:List Prop} {N:Nat} {ms:List (Nat × Nat × SV)} {es:List (Nat × HP)} (a:A) (hq:Q a)
  (h:∀ z,outL [] M names (sim1 (c.at st) n s) ds z=(ps,some (.inr (qtc ms es (q2a names N (C a)))))) (hn:boolC (q0a k0 names M (C a)) (allN qva (C a).heap) false=true)
  (hT:∀ m∈ms,∀ p u,(C a).frames[m.1]? = some p->p.tmps[m.2.1]? = some u->∃ w,u=some w/\m.2.2.Imp (w.ren (q8a names N))) (hE:∀ e∈es,∀ E0,(C a).heap[e.1]? = some E0->ImpE (q8a names N) (some e.2) E0) (hp:∀ p∈ps,p):q6d c k0 C Q D s:=⟨st,n,q0s a hq h hn hT hE hp⟩
def q1s {A:Type} (c:Cfg) (k0:Nat) (C:A->Cut) (Q:A->Prop) (D:SV->List SO->Prop) (f:FuncId) (args:List SV) (H:List SO):Prop:=∃ st n,(qka (c.at st) n f args H).Ob D (qti k0 C Q)
theorem qzq {A:Type} {c:Cfg} {k0:Nat} {C:A->Cut} {Q:A->Prop} {D:SV->List SO->Prop} {f:FuncId} {args:List SV} {H:List SO} (st:Option (Nat × Nat)) (n:Nat) {M:Cut} {names:List Nat} {ds:List Bool} {ps:List Prop} {N:Nat} (a:A) (hq:Q a)
  (h:∀ z,outL [] M names (qka (c.at st) n f args H) ds z=(ps,some (.inr (q2a names N (C a))))) (hn:boolC (q0a k0 names M (C a)) (allN qva (C a).heap) false=true) (hp:∀ p∈ps,p):q1s c k0 C Q D f args H:=⟨st,n,qdv a hq h hn hp⟩
theorem q46 {A:Type} {c:Cfg} {k0:Nat} {C:A->Cut} {Q:A->Prop} {D:SV->List SO->Prop} {f:FuncId} {args:List SV} {H:List SO} (st:Option (Nat × Nat)) (n:Nat) {M:Cut} {names:List Nat} {ds:List Bool} {ps:List Prop} {N i:Nat} {E:HP} (a:A) (hq:Q a)
  (h:∀ z,outL [] M names (qka (c.at st) n f args H) ds z=(ps,some (.inr (qlf i E (q2a names N (C a)))))) (hn:boolC (q0a k0 names M (C a)) (allN qva (C a).heap) false=true) (hE:∀ E0,(C a).heap[i]? = some E0->ImpE (q8a names N) (some E) E0) (hp:∀ p∈ps,p):q1s c k0 C Q D f args H:=⟨st,n,q73 a hq h hn hE hp⟩
theorem qgg {A:Type} {c:Cfg} {k0:Nat} {C:A->Cut} {Q:A->Prop} {D:SV->List SO->Prop} {f:FuncId} {args:List SV} {H:List SO} (st:Option (Nat × Nat)) (n:Nat) {M:Cut} {names:List Nat} {ds:List Bool} {ps:List Prop} {N:Nat} {ms:List (Nat × Nat × SV)} {es:List (Nat × HP)} (a:A) (hq:Q a)
  (h:∀ z,outL [] M names (qka (c.at st) n f args H) ds z=(ps,some (.inr (qtc ms es (q2a names N (C a)))))) (hn:boolC (q0a k0 names M (C a)) (allN qva (C a).heap) false=true)
  (hT:∀ m∈ms,∀ p u,(C a).frames[m.1]? = some p->p.tmps[m.2.1]? = some u->∃ w,u=some w/\m.2.2.Imp (w.ren (q8a names N))) (hE:∀ e∈es,∀ E0,(C a).heap[e.1]? = some E0->ImpE (q8a names N) (some e.2) E0) (hp:∀ p∈ps,p):q1s c k0 C Q D f args H:=⟨st,n,q0s a hq h hn hT hE hp⟩
theorem qmf {c:Cfg} (hc:CfgOK c) {A:Type} (C:A->Cut) (OK:A->Prop) (μ:A->Nat) {D:SV->List SO->Prop} {f:FuncId} {args:List SV} {H:List SO} (hgl:∀ g nm,c.glob g=some nm->nm<H.length)
  (h0:q1s c H.length C OK D f args H) (hs:∀ a,OK a->∀ J,q6d c H.length C (fun a'=>OK a'/\μ a'<μ a) D ((C a).fill J)):Runs c f args H D:=q36 hc C OK μ hgl h0 hs
def qmd (t:Tree):List Bool->SS :=
 Tree.rec (motive:=fun _=>List Bool->SS) (fun _ _ _=>⟨[],[]⟩) (fun s _=>s) (fun _ _ ih ds=>ih ds) (fun _ _ _ iht ihf ds=>List.rec (motive:=fun _=>SS) ⟨[],[]⟩ (fun d r _=>boolC d (iht r) (ihf r)) ds) (fun _ _=>⟨[],[]⟩) (fun _ ih ds=>ih (fun _=>0) ds) t
def jic (T:List (Option SV)) (l:List (Nat × SV)):List (Option SV):=List.rec (motive:=fun _=>List (Option SV)->List (Option SV)) (fun T=>T) (fun a _ ih T=>ih (setN T a.1 (some a.2))) l T
def qow (s:SF) (l:List (Nat × SV)):SP:=⟨s.fn,jic (repN none (lenN s.tmps)) l,s.todo,s.defers,s.roundOf⟩
def qke (ss:List SF):List (List (Nat × SV))->List SP:=List.rec (motive:=fun _=>List (List (Nat × SV))->List SP) (fun _=>[]) (fun s _ ih ls=>List.rec (motive:=fun _=>List SP) (qow s []::ih []) (fun l r _=>qow s l::ih r) ls) ss
def jjc (e:Option SO) (l:List (Nat × SV)):HP:=optC e (.ent .gone) fun e=>SO.rec (motive:=fun _=>HP) (fun c w el=>.ent (.own c w el)) (fun c=>.ent (.row c)) (fun s p f T ps a b d=>.loop s p f (jic (repN none (lenN T)) l) ps a b d) (fun ds=>.ent (.deferred ds)) (.ent .gone) (fun o=>.ent (.obj o)) e
theorem sum_runs {c:Cfg} {O:Nat->Prop} {w0 w:World} {β:Val} {H:List SO} {base:Nat} {f:FuncId} {vs:List Value} (hH:HeapRel0 c.P O w0 β H w)
  (I:Ifc) (hgl:∀ g j,c.glob g=some j->I.known j=true/\∃ l,β (I.big j)=some l/\l.blk=g/\l.off=0) (ha:SV.denL β (SV.renL I.big I.args)=some vs) (hI:I.Fits H) {r:SumRes} (keep:List Nat) (hk:∀ j∈keep,I.names.length<=j) (hkn:keep.Nodup)
  (hr:Runs c f I.args I.ents (I.Ends base keep r)):SumSem c.P H β w base f vs r:=by
 refine qss hH I hgl ha hI (qld I.ents 0) keep (fun j c w el h=>(qse _ _ _).2 ⟨j,c,w,el,by omega,h⟩) (fun j hj => ?_) hk hkn (qxg _ _) hr.1 fun hH' hG ha'=>(hr.2 _ _ _ _ _ hH' hG ha').mono fun e w' hcame => ?_
 . obtain ⟨i,c,w,el,h,h'⟩:=(qse _ _ _).1 hj
   exact ⟨c,w,el,by rw [h,Nat.zero_add]; exact h'⟩
 . obtain ⟨v,H',x,β',he,h,hle,hv,hH2⟩:=hcame
   exact ⟨v,H',x,β',he,⟨h.val,h.uv,h.sets.length,h.sets.get,h.news.length,h.news.get⟩,hle,hv,hH2⟩
theorem qpy {c:Cfg} {w:World} {β:Val} {H:List SO} {f:FuncId} {args:List SV} {vs:List Value} (hH:HeapRel c.P (fun _=>False) w β H w) (hG:GlobRel c.glob β) (ha:SV.denL β args=some vs)
  (hr:Runs c f args H fun v _=>v=.bool (.lit true)):Calls c.P f vs.toArray w fun e w'=>e=.returned (.bool true)/\Go.RowKit.Below w.heap.size w w':=by
 refine (hr.2 _ _ _ _ _ hH hG ha).mono fun e w' hcame => ?_
 obtain ⟨v,H',x,β',rfl,rfl,_,hv,hH'⟩:=hcame
 cases hv
 exact ⟨rfl,hH'.keep.below⟩
end
noncomputable section
variable {α:Type}
def SO.keeps (p:Nat->Bool) (e:SO):Bool:=SO.rec (motive:=fun _=>Bool) (fun c _ _=>Cells.rec (motive:=fun _=>Bool) (fun l=>SV.usesL p l) (fun _ _=>false) (fun _ _=>true) c) (fun c=>Cells.rec (motive:=fun _=>Bool) (fun l=>SV.usesL p l) (fun _ _=>false) (fun _ _=>true) c) (fun _ _ _ _ _ _ _ _=>false) (fun _=>false) false (fun o=>o.uses p) e
theorem SO.keeps_rel {P:Program} {O:Nat->Prop} {w0 w:World} {β β':Val} {p:Nat->Bool} (hp:∀ n,p n=true->β n=β' n) {n:Nat} (hn:p n=true) {e:SO} (h:e.keeps p=true):EntryRel P O w0 β w n e->EntryRel P O w0 β' w n e:=by
 cases e with
 | own c wh el =>
   cases c with
   | lst l =>
     rintro ⟨lo,vs,rest,a,b,h1,h2,h3,h4⟩
     exact ⟨lo,vs,rest,a,b,(hp n hn)▸h1,h2,(show SV.denL β' l=some vs from by rw [← SV.denL_uses hp l h]; exact h3),h4⟩
   | fn=>cases h
   | raw V m =>
     rintro ⟨lo,vs,rest,a,b,h1,h2,h3,h4⟩
     exact ⟨lo,vs,rest,a,b,(hp n hn)▸h1,h2,h3,h4⟩
 | row c =>
   cases c with
   | lst l =>
     rintro ⟨lo,vs,h1,h3,h4⟩
     exact ⟨lo,vs,(hp n hn)▸h1,(show SV.denL β' l=some vs from by rw [← SV.denL_uses hp l h]; exact h3),h4⟩
   | fn=>cases h
   | raw V m =>
     rintro ⟨lo,vs,h1,h3,h4⟩
     exact ⟨lo,vs,(hp n hn)▸h1,h3,h4⟩
 | loop=>cases h
 | deferred=>cases h
 | gone=>cases h
 | obj o =>
   rintro ⟨lo,x,h1,h2,h3,h4⟩
   exact ⟨lo,x,(hp n hn)▸h1,h2,by rw [← SObj.den_uses hp h]; exact h3,h4⟩
theorem EntryRel.placed {P:Program} {O:Nat->Prop} {w0 w:World} {β:Val} {n:Nat} {e:SO} {p:Nat->Bool} (hk:e.keeps p=true) (h:EntryRel P O w0 β w n e):∃ l,β n=some l:=by
 cases e with
 | own=>obtain ⟨l,_,_,_,_,h,_⟩:=h; exact ⟨l,h⟩
 | row=>obtain ⟨l,_,h,_⟩:=h; exact ⟨l,h⟩
 | loop=>cases hk
 | deferred=>cases hk
 | gone=>cases hk
 | obj=>obtain ⟨l,_,h,_⟩:=h; exact ⟨l,h⟩
def qwh (M:List Nat) (H:List SO):Nat->List SO:=List.rec (motive:=fun _=>Nat->List SO) (fun _=>[]) (fun e _ ih i=>boolC (memN i M) e .gone::ih (Nat.succ i)) H
theorem qao (M:List Nat):∀ (H:List SO) (i n:Nat),(qwh M H i)[n]? = (H[n]?).map fun e=>boolC (memN (i+n) M) e .gone
 | [],i,n=>by simp [qwh]
 | e::H,i,n=>by
   show (boolC (memN i M) e .gone::qwh M H (i+1))[n]? = _
   cases n with
   | zero=>simp
   | succ n =>
     rw [List.getElem?_cons_succ,qao M H (i+1) n,List.getElem?_cons_succ,show i+1+n=i+(n+1) from by omega]
def ownM (H:List SO) (M:List Nat):List Nat:=q0d (fun m=>optC (nth H m) false SO.owned) M
def jkc (gl M:List Nat) (args:List SV) (H:List SO):Bool :=
 boolC (allN (fun g=>memN g M) gl) (boolC (allN (fun m=>optC (nth H m) false fun e=>e.keeps fun n=>memN n M) M) (SV.usesL (fun n=>memN n M) args) false) false
def jlc (t:Tree):Option (SV × List SO) :=
 Tree.rec (motive:=fun _=>Option (SV × List SO)) (fun v H=>some (v,H)) (fun _=>none) (fun _ _ ih=>ih) (fun b _ _ iht ihf=>boolC b iht ihf) (fun _=>none) (fun _ ih=>ih fun _=>0) t
def endP (M:List Nat) (v:SV) (es:List (Option SO)) (v':SV) (H':List SO):Prop:=v'=v/\mapN (fun m=>nth H' m) M=es
def atE (o:Option SO):SO:=optC o .gone fun e=>e
def runR (t:Tree) (M Mo:List Nat):R SumRes :=
 optC (jlc t) (.stuck 7779) fun r=>boolC (boolC (r.1.uses fun n=>memN n M) (allN (fun m=>optC (nth r.2 m) false fun e=>boolC e.owned (e.keeps fun n=>memN n M) false) Mo) false)
  (.need (t.Ob (endP Mo r.1 (mapN (fun m=>nth r.2 m) Mo)) fun _=>False) (.ok ⟨r.1,mapN (fun m=>(m,atE (nth r.2 m))) Mo,[]⟩)) (.stuck 7780)
def runS (c:Cfg) (n:Nat) (f:FuncId) (gl M:List Nat) (args:List SV) (H:List SO):R SumRes :=
 boolC (jkc gl M args H) (runR (qka c n f args (qwh M H 0)) M (ownM H M)) (.stuck 7778)
def qqy (c:Cfg) (n:Nat) (f:FuncId) (gl:List Nat) (nm:List SV->List SO->List Nat):Summ:=fun args H _ =>
 List.rec (motive:=fun _=>R SumRes) (.stuck 7777) (fun _ _ _=>runS c n f gl (nm args H) args H) args
theorem mem_filterN {β:Type} {f:β->Bool} {l:List β} {a:β}:a∈q0d f l↔a∈l/\f a=true:=by
 induction l with
 | nil=>simp [q0d]
 | cons b l ih =>
   show a∈boolC (f b) (b::q0d f l) (q0d f l)↔_
   cases hb:f b with
   | true =>
     rw [boolC_true,List.mem_cons,ih,List.mem_cons]
     constructor
     . rintro (rfl | ⟨h1,h2⟩)
       . exact ⟨.inl rfl,hb⟩
       . exact ⟨.inr h1,h2⟩
     . rintro ⟨rfl | h,h2⟩
       . exact .inl rfl
       . exact .inr ⟨h,h2⟩
   | false =>
     rw [boolC_false,ih,List.mem_cons]
     constructor
     . rintro ⟨h1,h2⟩; exact ⟨.inr h1,h2⟩
     . rintro ⟨rfl | h,h2⟩
       . rw [hb] at h2; cases h2
       . exact ⟨h,h2⟩
theorem qq9 {c:Cfg} (hc:CfgOK c) {n:Nat} {f:FuncId} {gl M:List Nat} (hgl:∀ g j,c.glob g=some j->j∈gl) {O:Nat->Prop} {w0 w:World} {β:Val} {H:List SO} {base:Nat} {args:List SV} {vs:List Value}
  (hH:HeapRel0 c.P O w0 β H w) (hG:GlobRel c.glob β) (ha:SV.denL β args=some vs):(runS c n f gl M args H).Sat (SumSem c.P H β w base f vs):=by
 unfold runS
 cases hok:jkc gl M args H with
 | false=>trivial
 | true =>
   rw [boolC_true]
   obtain ⟨hk1,hk2⟩:=q3a (show boolC (allN (fun g=>memN g M) gl) (boolC (allN (fun m=>optC (nth H m) false fun e=>e.keeps fun n=>memN n M) M) (SV.usesL (fun n=>memN n M) args) false) false=true from hok)
   obtain ⟨hk2,hk3⟩:=q3a hk2
   unfold runR
   cases hz:jlc (qka c n f args (qwh M H 0)) with
   | none=>trivial
   | some r =>
     obtain ⟨v,H0⟩:=r
     rw [optC_some]
     cases hend:boolC (v.uses fun n=>memN n M) (allN (fun m=>optC (nth H0 m) false fun e=>boolC e.owned (e.keeps fun n=>memN n M) false) (ownM H M)) false with
     | false=>trivial
     | true =>
       rw [boolC_true]
       obtain ⟨hv,hes⟩:=q3a hend
       intro hob
       show SumSem c.P H β w base f vs ⟨v,mapN (fun m=>(m,atE (nth H0 m))) (ownM H M),[]⟩
       let p:Nat->Bool:=fun n=>memN n M
       let β1:Val:=fun n=>if memN n M=true then β n else none
       have hp:∀ n,p n=true->β n=β1 n:=fun n hn=>(if_pos hn).symm
       have hM:∀ m∈M,∃ e,H[m]? = some e/\e.keeps p=true:=by
        intro m hm
        have:=qeh hk2 m hm
        rw [qda] at this
        cases hx:H[m]? with
        | none=>rw [hx] at this; cases this
        | some e=>rw [hx] at this; exact ⟨e,rfl,this⟩
       have h1:HeapRel c.P O w0 β1 (qwh M H 0) w:=by
        have hget:∀ (n:Nat) (e:SO),(qwh M H 0)[n]? = some e->(p n=true/\H[n]? = some e)\/e=.gone:=by
         intro n e hn
         rw [qao,Nat.zero_add] at hn
         cases hx:H[n]? with
         | none=>rw [hx] at hn; cases hn
         | some e0 =>
           rw [hx] at hn
           have hn:boolC (memN n M) e0 .gone=e:=Option.some.inj hn
           cases hm:memN n M with
           | true=>rw [hm] at hn; exact .inl ⟨hm,hn▸rfl⟩
           | false=>rw [hm] at hn; exact .inr hn.symm
        have hsome:∀ (n:Nat) (l:Loc),β1 n=some l->β n=some l:=by
         intro n l hl
         have hl:(if memN n M=true then β n else none)=some l:=hl
         split at hl
         . exact hl
         . cases hl
        refine ⟨⟨fun n e hn => ?_,fun n m e e' l l' hn hm ho ho' hnm hl hl' => ?_,fun n e l hn ho hl => ?_,hH.keep⟩,fun n hn => ?_⟩
        . rcases hget n e hn with ⟨h1,h2⟩ | rfl
          . obtain ⟨e',h3,h4⟩:=hM n (memN_iff.1 h1)
            rw [h2] at h3; cases h3
            exact SO.keeps_rel hp h1 h4 (hH.entries n e h2)
          . trivial
        . rcases hget n e hn with ⟨_,h2⟩ | rfl
          . rcases hget m e' hm with ⟨_,h3⟩ | rfl
            . exact hH.sep n m e e' l l' h2 h3 ho ho' hnm (hsome _ _ hl) (hsome _ _ hl')
            . cases ho'
          . cases ho
        . rcases hget n e hn with ⟨_,h2⟩ | rfl
          . exact hH.fresh n e l h2 ho (hsome _ _ hl)
          . cases ho
        . show (if memN n M=true then β n else none)=none
          rw [if_neg]
          intro hm
          obtain ⟨e,he,_⟩:=hM n (memN_iff.1 hm)
          have hlen:(qwh M H 0).length=H.length:=by
           have:∀ (H:List SO) (i:Nat),(qwh M H i).length=H.length:=by
            intro H
            induction H with
            | nil=>intro i; rfl
            | cons e H ih=>intro i; show (qwh M H (i+1)).length+1=_; rw [ih]; rfl
           exact this H 0
          rw [hlen] at hn
          have:=(List.getElem?_eq_some_iff.1 he).1
          omega
       have h2:=h1.rebase
       have hG1:GlobRel c.glob β1:=by
        intro g j hg
        obtain ⟨l,hl,h⟩:=hG g j hg
        have:=qeh hk1 j (hgl g j hg)
        exact ⟨l,by rw [← hp j this]; exact hl,h⟩
       have ha1:SV.denL β1 args=some vs:=by rw [← SV.denL_uses hp args hk3]; exact ha
       have hcalls:=qwq hc h2 hG1 ha1 hob
       have hback:∀ β2:Val,β1.le β2->∀ n,p n=true->β2 n=β n:=by
        intro β2 hle n hn
        obtain ⟨e,he,hk⟩:=hM n (memN_iff.1 hn)
        obtain ⟨l,hl⟩:=EntryRel.placed hk (hH.entries n e he)
        rw [hl]
        exact hle n l (by rw [← hp n hn]; exact hl)
       have hown:∀ m,m∈ownM H M->m∈M/\∃ e,H[m]? = some e/\e.owned=true:=by
        intro m hm
        obtain ⟨h3,h4⟩:=mem_filterN.1 hm
        rw [qda] at h4
        cases hx:H[m]? with
        | none=>rw [hx] at h4; cases h4
        | some e=>rw [hx] at h4; exact ⟨h3,e,rfl,h4⟩
       have hsets:∀ n e,(n,e)∈mapN (fun m=>(m,atE (nth H0 m))) (ownM H M)->n∈ownM H M/\e=atE (nth H0 n):=by
        intro n e h
        rw [qla,List.mem_map] at h
        obtain ⟨m,hm,he⟩:=h
        cases he
        exact ⟨hm,rfl⟩
       refine fun _=>⟨fun n e hn=>(hown n (hsets n e hn).1).2,.inl ⟨?_,fun cs => ?_⟩⟩
       . unfold qka at hz
         cases hg:q1d c.P f args with
         | none=>rw [hg] at hz; cases hz
         | some g=>exact (qvn hg ha1).2
       . obtain ⟨e,w',fr,⟨v',H',x,β2,rfl,⟨rfl,hes'⟩,hle,hden,hHe⟩,h5⟩:=hcalls cs
         refine ⟨_,w',fr,⟨x,β,rfl,?_,?_⟩,h5⟩
         . show v'.den β=some x
           rw [← SV.den_uses (hback β2 hle) _ hv]; exact hden
         . refine ⟨Val.le_refl β,hHe.keep.os,hHe.keep.tape,hHe.keep.output,hHe.keep.drawn,hHe.keep.size,fun _ _=>rfl,fun b hb hno => ?_,fun n e e' h3 h4 => ?_,fun n e hn => ?_,by simp,by simp⟩
           . refine hHe.keep.block b hb ?_
             rintro ⟨n,e,l,hn,ho,hl,rfl⟩
             rw [qao,Nat.zero_add] at hn
             cases hx:H[n]? with
             | none=>rw [hx] at hn; cases hn
             | some e0 =>
               rw [hx] at hn
               have hn:boolC (memN n M) e0 .gone=e:=Option.some.inj hn
               cases hm:memN n M with
               | false=>rw [hm] at hn; subst hn; cases ho
               | true =>
                 rw [hm] at hn
                 have hn:e0=e:=hn
                 subst hn
                 have hmo:n∈ownM H M:=mem_filterN.2 ⟨memN_iff.1 hm,by rw [qda,hx]; exact ho⟩
                 refine hno n (atE (nth H0 n)) l ?_ (by rw [hp n hm]; exact hl) rfl
                 rw [qla,List.mem_map]
                 exact ⟨n,hmo,rfl⟩
           . rw [(hsets n e h3).2,(hsets n e' h4).2]
           . obtain ⟨hmo,rfl⟩:=hsets n e hn
             have h6:=qeh hes n hmo
             have h7:nth H' n=nth H0 n:=by
              rw [qla,qla] at hes'
              exact List.map_inj_left.1 hes' n hmo
             cases hx:nth H0 n with
             | none=>rw [hx] at h6; cases h6
             | some e =>
               rw [hx] at h6 h7
               obtain ⟨h8,h9⟩:=q3a (show boolC e.owned (e.keeps fun n=>memN n M) false=true from h6)
               rw [qda] at h7
               show OwnRel c.P β w' n e
               have hpn:p n=true:=memN_iff.2 (hown n hmo).1
               exact (SO.keeps_rel (P:=c.P) (hback β2 hle) hpn h9 (hHe.entries n e h7)).toOwn h8
theorem q56 {c:Cfg} (hc:CfgOK c) (n:Nat) (f:FuncId) (gl:List Nat) (nm:List SV->List SO->List Nat) (hgl:∀ g j,c.glob g=some j->j∈gl):SumAt c.P c.glob f (qqy c n f gl nm):=by
 intro O w0 β H w base args vs hH hG ha
 unfold qqy
 cases args with
 | nil=>trivial
 | cons a r=>exact qq9 hc hgl hH hG ha
def allL (js:List Nat) (t:Tree):(Nat->Nat->Nat)->List Prop × List (Option (SV × List (Option SO))) :=
 Tree.rec (motive:=fun _=>(Nat->Nat->Nat)->List Prop × List (Option (SV × List (Option SO)))) (fun v H _=>([],[some (v,mapN (fun j=>nth H j) js)])) (fun _ _=>([],[none])) (fun p _ ih z=>(p::(ih z).1,(ih z).2))
  (fun _ _ _ iht ihf z=>(app (iht z).1 (ihf z).1,app (iht z).2 (ihf z).2)) (fun _ _=>([],[none])) (fun _ ih z=>ih (z 0) fun i=>z (i+1)) t
theorem q40 {js:List Nat} {t:Tree} {v:SV} {es:List (Option SO)} (hp:∀ z,∀ p∈(allL js t z).1,p) (hl:∀ z,∀ r∈(allL js t z).2,r=some (v,es)):t.Ob (endP js v es) fun _=>False:=by
 have z0:Nat->Nat->Nat:=fun _ _=>0
 induction t with
 | done v' H =>
   have:=Option.some.inj (hl z0 (some (v',mapN (fun j=>nth H j) js)) List.mem_cons_self)
   cases this
   exact ⟨rfl,rfl⟩
 | stop s=>cases hl z0 none List.mem_cons_self
 | need p t ih=>exact ⟨hp z0 p List.mem_cons_self,ih (fun z q hq=>hp z q (List.mem_cons_of_mem _ hq)) hl⟩
 | fork b t f iht ihf =>
   have h1:∀ z,(allL js (.fork b t f) z).1=(allL js t z).1++(allL js f z).1:=fun z=>qza _ _
   have h2:∀ z,(allL js (.fork b t f) z).2=(allL js t z).2++(allL js f z).2:=fun z=>qza _ _
   exact ⟨fun _=>iht (fun z q hq=>hp z q (by rw [h1]; exact List.mem_append_left _ hq)) (fun z q hq=>hl z q (by rw [h2]; exact List.mem_append_left _ hq)),
    fun _=>ihf (fun z q hq=>hp z q (by rw [h1]; exact List.mem_append_right _ hq)) (fun z q hq=>hl z q (by rw [h2]; exact List.mem_append_right _ hq))⟩
 | stuck n=>cases hl z0 none List.mem_cons_self
 | any k ih =>
   intro z
   refine ih z (fun z' q hq=>hp (fun i=>match i with | 0=>z | i+1=>z' i) q hq) fun z' q hq=>hl (fun i=>match i with | 0=>z | i+1=>z' i) q hq
end
noncomputable section
def TakenQ (f:Nat->Nat) (E e:SO):Prop :=
 match E with
 | .obj o=>∃ o0,e=.obj o0/\o0.Imp (o.ren f)
 | .gone=>∃ l:Option Nat,l=l/\(e.placed=true\/∃ o,e=.obj o)
 | E=>Taken f E e
def SO.CUsesQ (p:Nat->Bool) (E:SO):Prop :=
 match E with
 | .obj o=>o.uses p=true
 | E=>E.CUses p
theorem Taken.q {f:Nat->Nat} {E e:SO} (h:Taken f E e):TakenQ f E e:=by
 cases E with
 | own=>exact h
 | row=>exact h
 | loop=>exact h
 | deferred=>exact h
 | gone=>exact ⟨none,rfl,.inl h⟩
 | obj=>exact h.elim
theorem SO.CUses.q {p:Nat->Bool} {E:SO} (h:E.CUses p):E.CUsesQ p:=by
 cases E with
 | own=>exact h
 | row=>exact h
 | loop=>exact h
 | deferred=>exact h
 | gone=>exact h
 | obj=>exact h.elim
structure Ifc.FitsQ (I:Ifc) (H:List SO):Prop where
 len:I.ents.length=I.names.length
 nodup:∀ (i j nm:Nat),I.names[i]? = some nm->I.names[j]? = some nm->i=j
 uargs:SV.usesL I.known I.args=true
 ent:∀ (j:Nat) (E:SO),I.ents[j]? = some E->∃ e,H[I.big j]? = some e/\TakenQ I.big E e
 uent:∀ (j:Nat) (E:SO),I.ents[j]? = some E->E.CUsesQ I.known
theorem Ifc.Fits.q {I:Ifc} {H:List SO} (h:I.Fits H):I.FitsQ H:=⟨h.len,h.nodup,h.uargs,fun j E he=>let ⟨e,h1,h2⟩:=h.ent j E he; ⟨e,h1,h2.q⟩,fun j E he=>(h.uent j E he).q⟩
def EntsQ (f:Nat->Nat) (p:Nat->Bool) (H:List SO):List Nat->List SO->Prop
 | n::ns,E::Es=>((∃ e,H[n]? = some e/\TakenQ f E e)/\E.CUsesQ p)/\EntsQ f p H ns Es
 | [],[]=>True
 | _,_=>False
theorem EntsQ.length {f:Nat->Nat} {p:Nat->Bool} {H:List SO}:∀ {ns:List Nat} {Es:List SO},EntsQ f p H ns Es->Es.length=ns.length
 | [],[],_=>rfl
 | _::_,_::_,h=>by simp only [List.length_cons]; rw [EntsQ.length h.2]
 | [],_::_,h=>h.elim
 | _::_,[],h=>h.elim
theorem EntsQ.get {f:Nat->Nat} {p:Nat->Bool} {H:List SO}:∀ {ns:List Nat} {Es:List SO},EntsQ f p H ns Es->∀ (j:Nat) (E:SO),Es[j]? = some E->(∃ e,H[(nth ns j).getD 0]? = some e/\TakenQ f E e)/\E.CUsesQ p
 | [],[],_,j,E,h=>by simp at h
 | n::ns,E'::Es,h,0,E,hE=>by simp at hE; subst hE; exact h.1
 | n::ns,E'::Es,h,j+1,E,hE=>by
   have:=EntsQ.get h.2 j E (by simpa using hE)
   rw [qda] at this ⊢
   simpa using this
 | [],_::_,h,_,_,_=>h.elim
 | _::_,[],h,_,_,_=>h.elim
theorem Ifc.fitsQ {I:Ifc} {H:List SO} (hn:I.names.Nodup) (hu:SV.usesL I.known I.args=true) (he:EntsQ I.big I.known H I.names I.ents):I.FitsQ H :=
 ⟨he.length,fun _ _ _ hi hj=>(List.getElem?_inj (List.getElem?_eq_some_iff.1 hi).1 hn).1 (hi.trans hj.symm),hu,fun j E hE=>(he.get j E hE).1,fun j E hE=>(he.get j E hE).2⟩
def Ifc.ownsQ (I:Ifc) (β:Val) (b:Nat):Prop:=∃ (j:Nat) (E:SO) (l:Loc),I.ents[j]? = some E/\E.owned=true/\β (I.big j)=some l/\l.blk=b
theorem TakenQ.owned {f:Nat->Nat} {p:Nat->Bool} {E e:SO} (h:TakenQ f E e) (hu:E.CUsesQ p) (ho:E.owned=true):e.owned=true:=by
 cases E with
 | own=>obtain ⟨_,rfl,_⟩:=h; rfl
 | row=>cases ho
 | loop=>exact hu.elim
 | deferred=>exact hu.elim
 | gone=>cases ho
 | obj=>obtain ⟨_,rfl,_⟩:=h; rfl
theorem EntryRel.loc {P:Program} {O:Nat->Prop} {w0 w:World} {β:Val} {n:Nat} {e:SO} (h:EntryRel P O w0 β w n e) (hp:e.placed=true\/∃ o,e=.obj o):∃ l,β n=some l:=by
 rcases hp with hp | ⟨o,rfl⟩
 . cases e with
   | own cc ww el=>obtain ⟨l,_,_,_,_,hl,_⟩:=h; exact ⟨l,hl⟩
   | row cc=>obtain ⟨l,_,hl,_⟩:=h; exact ⟨l,hl⟩
   | loop=>cases hp
   | deferred=>cases hp
   | gone=>cases hp
   | obj=>cases hp
 . obtain ⟨l,_,hl,_⟩:=h; exact ⟨l,hl⟩
theorem Ifc.heapQ {P:Program} {O:Nat->Prop} {w0 w:World} {β:Val} {H:List SO} {I:Ifc} (h:HeapRel0 P O w0 β H w) (hI:I.FitsQ H):HeapRel P (I.ownsQ β) w (I.val β) I.ents w:=by
 have hj:∀ (j:Nat) (E:SO),I.ents[j]? = some E->j<I.names.length:=fun j E he=>by
  rw [← hI.len]; exact (List.getElem?_eq_some_iff.1 he).1
 have hval:∀ (j:Nat) (E:SO),I.ents[j]? = some E->I.val β j=β (I.big j):=fun j E he=>by
  exact (Ifc.val_known j ((I.known_iff j).2 (hj j E he))).symm
 have hne:∀ (i j:Nat) (E E':SO),I.ents[i]? = some E->I.ents[j]? = some E'->i≠j->I.big i≠I.big j:=fun i j E E' h1 h2 hij heq =>
  hij (hI.nodup i j (I.big i) (Ifc.big_get (hj i E h1)) (by rw [heq]; exact Ifc.big_get (hj j E' h2)))
 refine ⟨⟨fun n E hn => ?_,fun n m E E' l l' hn hm ho ho' hnm hl hl' => ?_,fun n E l hn ho hl => ?_,⟨rfl,rfl,rfl,Nat.le_refl _,Nat.le_refl _,fun _ _ _=>rfl⟩⟩,fun n hn => ?_⟩
 . obtain ⟨e,he,ht⟩:=hI.ent n E hn
   have hu:=hI.uent n E hn
   have hv:=hval n E hn
   have h0:=h.entries _ e he
   cases E with
   | own c wh el =>
     obtain ⟨c0,rfl,himp⟩:=ht
     obtain ⟨l,vs,rest,lo,hi,hl,h0',hc,hh,hfz,hw,hcap⟩:=h0
     exact ⟨l,vs,rest,lo,hi,hv.trans hl,h0',(CellsRel.ren hu Ifc.val_known).1 (himp _ _ hc),hh,hfz,hw,hcap⟩
   | row c =>
     have htake:∀ (vs:List Value) (k i:Nat) (x:Value),(vs.take k)[i]? = some x->vs[i]? = some x:=by
      intro vs k i x h
      rw [List.getElem?_take] at h
      split at h
      . exact h
      . cases h
     obtain ⟨c0,ht,himp⟩:=ht
     rcases ht with rfl | ⟨wh,el,rfl⟩
     . obtain ⟨l,vs,hl,hc,hx⟩:=h0
       obtain ⟨kk,hc⟩:=himp _ _ hc
       refine ⟨l,vs.take kk,hv.trans hl,(CellsRel.ren hu Ifc.val_known).1 hc,fun i x hi => ?_⟩
       obtain ⟨h1,h2,h3⟩:=hx i x (htake _ _ _ _ hi)
       refine ⟨Nat.lt_of_lt_of_le h1 h.keep.size,?_,?_⟩
       . rintro ⟨j,E',l',hj',ho',hl',hb⟩
         obtain ⟨e',he',ht'⟩:=hI.ent j _ hj'
         rcases h.fresh _ _ l' he' (ht'.owned (hI.uent j _ hj') ho') hl' with h4 | h4
         . omega
         . exact h2 (hb▸h4)
       . rw [World.cell_of_block (h.keep.block _ h1 h2)]; exact h3
     . obtain ⟨l,vs,rest,lo,hi,hl,h0',hc,hh,hfz,hw,hcap⟩:=h0
       obtain ⟨kk,hc⟩:=himp _ _ hc
       refine ⟨l,vs.take kk,hv.trans hl,(CellsRel.ren hu Ifc.val_known).1 hc,fun i x hi0=>⟨(Array.getElem?_eq_some_iff.1 hh).1,?_,?_⟩⟩
       . rintro ⟨j,E',l',hj',ho',hl',hb⟩
         obtain ⟨e',he',ht'⟩:=hI.ent j _ hj'
         by_cases hnj:n=j
         . subst hnj; rw [hn] at hj'; cases hj'; cases ho'
         . exact h.sep _ _ _ _ l l' he he' rfl (ht'.owned (hI.uent j _ hj') ho') (hne n j _ _ hn hj' hnj) hl hl' hb.symm
       . unfold World.cell?
         rw [hh,h0',Nat.zero_add]
         have hi':=htake _ _ _ _ hi0
         have hlt:=(List.getElem?_eq_some_iff.1 hi').1
         simp only [List.getElem?_toArray,List.getElem?_append_left hlt,hi']
         rfl
   | loop=>exact hu.elim
   | deferred=>exact hu.elim
   | gone=>trivial
   | obj o =>
     obtain ⟨o0,rfl,himp⟩:=ht
     obtain ⟨l,x,hl,h0',hd,hh⟩:=h0
     refine ⟨l,x,hv.trans hl,h0',?_,hh⟩
     have:=himp _ _ hd
     rw [SObj.den_ren,SObj.den_uses (β:=fun n=>β (I.big n)) (β':=I.val β) Ifc.val_known hu] at this
     exact this
 . obtain ⟨e,he,ht⟩:=hI.ent n E hn
   obtain ⟨e',he',ht'⟩:=hI.ent m E' hm
   rw [hval n E hn] at hl
   rw [hval m E' hm] at hl'
   exact h.sep _ _ _ _ l l' he he' (ht.owned (hI.uent n E hn) ho) (ht'.owned (hI.uent m E' hm) ho') (hne n m _ _ hn hm hnm) hl hl'
 . rw [hval n E hn] at hl
   exact .inr ⟨n,E,l,hn,ho,hl,rfl⟩
 . unfold Ifc.val
   rw [if_neg]
   rw [I.known_iff,← hI.len]; omega
def j7f (p:Nat->Bool) (g:Nat->Nat) (E:Option SO) (e:SO):Prop:=qae p g E e\/∃ o,E=some (.obj o)/\o.uses p=true/\e=.obj (o.ren g)
def qaf (p:Nat->Bool) (g:Nat->Nat) (E:Option SO) (e:SO):Prop:=qae p g E e\/∃ o o',E=some (.obj o)/\o.uses p=true/\(o.ren g).Imp o'/\e=.obj o'
structure Ifc.OutQ (I:Ifc) (base:Nat) (turn keep:List Nat) (r:SumRes) (v:SV) (H:List SO):Prop where
 val:(v.ren (I.out base keep)).Imp r.v
 uv:v.uses (I.seen keep)=true
 setsLen:r.sets.length=turn.length
 sets:∀ (i j:Nat),turn[i]? = some j->∃ e,r.sets[i]? = some (I.big j,e)/\qaf (I.seen keep) (I.out base keep) H[j]? e
 newsLen:r.news.length=keep.length
 news:∀ (i j:Nat),keep[i]? = some j->∃ e,r.news[i]? = some e/\qaf (I.seen keep) (I.out base keep) H[j]? e
theorem qd0 {c:Cfg} {O:Nat->Prop} {w0 w:World} {β:Val} {H:List SO} {base:Nat} {f:FuncId} {vs:List Value} (hH:HeapRel0 c.P O w0 β H w)
  (I:Ifc) (hgl:∀ g j,c.glob g=some j->I.known j=true/\∃ l,β (I.big j)=some l/\l.blk=g/\l.off=0) (ha:SV.denL β (SV.renL I.big I.args)=some vs) (hI:I.FitsQ H) {r:SumRes} (turn keep:List Nat) (ht1:∀ (j:Nat) E,I.ents[j]? = some E->E.owned=true->j∈turn) (ht2:∀ j∈turn,∃ E,I.ents[j]? = some E/\E.owned=true) (hk:∀ j∈keep,I.names.length<=j) (hkn:keep.Nodup) (htn:turn.Nodup:=by simp)
  (hbody:∃ fn,c.P.funcs[f]? = some fn/\fn.body.isSome=true)
  (hrun:HeapRel c.P (I.ownsQ β) w (I.val β) I.ents w->GlobRel c.glob (I.val β)->SV.denL (I.val β) I.args=some vs->Calls c.P f vs.toArray w (Came c.P (I.ownsQ β) w (I.val β) (I.OutQ base turn keep r))):SumSem c.P H β w base f vs r:=by
 intro hfree
 have hH':=Ifc.heapQ hH hI
 have ha':SV.denL (I.val β) I.args=some vs:=by
  rw [SV.denL_ren,SV.denL_uses Ifc.val_known _ hI.uargs] at ha; exact ha
 have hcalls:=hrun hH' (fun g j hg=>let ⟨hk,l,h1,h2⟩:=hgl g j hg; ⟨l,by rw [← Ifc.val_known j hk]; exact h1,h2⟩) ha'
 have hown:∀ j∈turn,∃ e l,H[I.big j]? = some e/\e.owned=true/\β (I.big j)=some l/\I.val β j=some l/\j<I.names.length:=by
  intro j hj
  obtain ⟨E,he,ho⟩:=ht2 j hj
  obtain ⟨e,he',ht⟩:=hI.ent j _ he
  have hu:=hI.uent j _ he
  have hjl:j<I.names.length:=by rw [← hI.len]; exact (List.getElem?_eq_some_iff.1 he).1
  have hpl:e.placed=true\/∃ o,e=.obj o:=by
   cases E with
   | own=>obtain ⟨_,rfl,_⟩:=ht; exact .inl rfl
   | row=>cases ho
   | loop=>exact hu.elim
   | deferred=>exact hu.elim
   | gone=>cases ho
   | obj=>obtain ⟨_,rfl,_⟩:=ht; exact .inr ⟨_,rfl⟩
  obtain ⟨l,hl⟩:=(hH.entries _ _ he').loc hpl
  exact ⟨e,l,he',ht.owned hu ho,hl,by rw [← Ifc.val_known j ((I.known_iff j).2 hjl)]; exact hl,hjl⟩
 have hsets:∀ (v:SV) (H'':List SO),I.OutQ base turn keep r v H''->∀ m e,(m,e)∈r.sets->∃ j∈turn,m=I.big j/\qaf (I.seen keep) (I.out base keep) H''[j]? e/\∃ i:Nat,turn[i]? = some j/\r.sets[i]? = some (m,e):=by
  intro v H'' hout m e hm
  obtain ⟨i,hi⟩:=List.mem_iff_getElem?.1 hm
  have hil:=(List.getElem?_eq_some_iff.1 hi).1
  rw [hout.setsLen] at hil
  obtain ⟨e',h1,h2⟩:=hout.sets i _ (List.getElem?_eq_getElem hil)
  rw [hi] at h1
  cases h1
  exact ⟨_,List.getElem_mem hil,rfl,h2,i,List.getElem?_eq_getElem hil,hi⟩
 refine ⟨?_,.inl ⟨hbody,?_⟩⟩
 . intro m e hm
   obtain ⟨e',w',fr,hcame,_⟩:=hcalls []
   obtain ⟨v,H'',x,β'',_,hout,_⟩:=hcame
   obtain ⟨j,hj,rfl,_⟩:=hsets v H'' hout m e hm
   obtain ⟨e0,l,h1,h2,_⟩:=hown j hj
   exact ⟨_,h1,h2⟩
 . intro cs
   obtain ⟨e',w',fr,hcame,hst⟩:=hcalls cs
   refine ⟨e',w',fr,?_,hst⟩
   obtain ⟨v,H'',x,β'',rfl,hout,hle,hv,hH2⟩:=hcame
   let βb:Val:=fun n=>if base<=n/\n<base+keep.length then (keep[n - base]?).bind β'' else β n
   have hlenn:r.news.length=keep.length:=hout.newsLen
   have hfree':∀ i,i<keep.length->β (base+i)=none:=fun i hi=>hfree i (by rw [hlenn]; exact hi)
   have hβle:β.le βb:=by
    intro n l hn
    show (if _ then _ else _)=_
    rw [if_neg]
    . exact hn
    . rintro ⟨h1,h2⟩
      have:=hfree' (n - base) (by omega)
      rw [show base+(n - base)=n from by omega,hn] at this; cases this
   have hseen:∀ j,I.seen keep j=true->βb (I.out base keep j)=β'' j:=by
    intro j hj
    unfold Ifc.seen at hj
    unfold Ifc.out
    cases hkn':I.known j with
    | true =>
      rw [boolC_true]
      have hjl:=(I.known_iff j).1 hkn'
      obtain ⟨E,hE⟩:∃ E,I.ents[j]? = some E:=⟨_,List.getElem?_eq_getElem (by rw [hI.len]; exact hjl)⟩
      obtain ⟨e,he,htk⟩:=hI.ent j E hE
      have hu:=hI.uent j E hE
      have hpl:e.placed=true\/∃ o,e=.obj o:=by
       cases E with
       | own cc ww el=>obtain ⟨c1,rfl,_⟩:=htk; exact .inl rfl
       | row cc=>obtain ⟨c1,rfl | ⟨ww,el,rfl⟩,_⟩:=htk <;> exact .inl rfl
       | loop=>exact hu.elim
       | deferred=>exact hu.elim
       | gone=>obtain ⟨_,_,h⟩:=htk; exact h
       | obj=>obtain ⟨_,rfl,_⟩:=htk; exact .inr ⟨_,rfl⟩
      obtain ⟨l,hl⟩:=(hH.entries _ _ he).loc hpl
      rw [hβle _ _ hl]
      have:I.val β j=some l:=by rw [← Ifc.val_known j hkn']; exact hl
      rw [hle _ _ this]
    | false =>
      rw [hkn',boolC_false,memN_iff] at hj
      rw [boolC_false]
      have h1:=q3j hj
      have h2:=(List.getElem?_eq_some_iff.1 h1).1
      show (if _ then _ else _)=_
      rw [if_pos (by omega),show base+idxN j keep - base=idxN j keep from by omega,h1]; rfl
   have hrenOwn:∀ (j:Nat) (e:SO),qaf (I.seen keep) (I.out base keep) H''[j]? e->I.seen keep j=true->e.owned=true/\OwnRel c.P βb w' (I.out base keep j) e:=by
    intro j e hg hs
    rcases hg with ⟨cc,ww,el,c',he,hu,himp,rfl⟩ | ⟨o,o',he,hu,himp,rfl⟩
    . obtain ⟨l,vs,rest,lo,hi,hl,h0,hcl,hh,hfz,hw,hcap⟩:=hH2.entries j _ he
      exact ⟨rfl,l,vs,rest,lo,hi,(hseen j hs).trans hl,h0,himp _ _ ((CellsRel.ren hu hseen).2 hcl),hh,hfz,hw,hcap⟩
    . obtain ⟨l,y,hl,h0,hd,hh⟩:=hH2.entries j _ he
      exact ⟨rfl,l,y,(hseen j hs).trans hl,h0,himp _ _ (by rw [SObj.den_ren,SObj.den_uses (β:=fun n=>βb (I.out base keep n)) (β':=β'') hseen hu]; exact hd),hh⟩
   have hatJ:∀ (j:Nat) (e:SO),qaf (I.seen keep) (I.out base keep) H''[j]? e->∃ e0 l,H''[j]? = some e0/\e0.owned=true/\β'' j=some l:=by
    intro j e hg
    rcases hg with ⟨cc,ww,el,c',he,_⟩ | ⟨o,o',he,_⟩
    . obtain ⟨l,vs2,rest,lo,hi2,hl,_⟩:=hH2.entries j _ he
      exact ⟨_,l,he,rfl,hl⟩
    . obtain ⟨l,y,hl,_⟩:=hH2.entries j _ he
      exact ⟨_,l,he,rfl,hl⟩
   have hseenT:∀ j∈turn,I.seen keep j=true/\I.out base keep j=I.big j:=by
    intro j hj
    obtain ⟨_,_,_,_,_,_,hjl⟩:=hown j hj
    have:=(I.known_iff j).2 hjl
    unfold Ifc.seen Ifc.out
    rw [this]; exact ⟨rfl,rfl⟩
   have hseenK:∀ j∈keep,I.seen keep j=true/\I.known j=false:=by
    intro j hj
    have hnk:I.known j=false:=by
     cases hx:I.known j with
     | false=>rfl
     | true=>have:=(I.known_iff j).1 hx; have:=hk j hj; omega
    unfold Ifc.seen
    rw [hnk]; exact ⟨q8h hj,rfl⟩
   have hnewsAt:∀ (i:Nat) (e:SO),r.news[i]? = some e->∃ j,keep[i]? = some j/\qaf (I.seen keep) (I.out base keep) H''[j]? e:=by
    intro i e hi
    have hil:=(List.getElem?_eq_some_iff.1 hi).1
    rw [hlenn] at hil
    obtain ⟨e',h1,h2⟩:=hout.news i _ (List.getElem?_eq_getElem hil)
    rw [hi] at h1; cases h1
    exact ⟨_,List.getElem?_eq_getElem hil,h2⟩
   refine ⟨x,βb,rfl,?_,⟨hβle,hH2.keep.os,hH2.keep.tape,hH2.keep.output,hH2.keep.drawn,hH2.keep.size,?_,?_,?_,?_,?_,?_⟩⟩
   . refine hout.val _ _ ?_
     rw [SV.den_ren,SV.den_uses hseen _ hout.uv]; exact hv
   . intro n hn
     rw [hlenn] at hn
     show (if _ then _ else _)=_
     rw [if_neg (by omega)]
   . intro b hb hno
     refine hH2.keep.block b hb ?_
     rintro ⟨j,E,l,hj,ho,hl,rfl⟩
     have hjt:=ht1 j E hj ho
     obtain ⟨i,hi⟩:=List.mem_iff_getElem?.1 hjt
     obtain ⟨e,he,_⟩:=hout.sets i j hi
     exact hno (I.big j) e l (List.mem_of_getElem? he) hl rfl
   . intro m e e' h1 h2
     obtain ⟨j,hj,hm1,hg1,i1,ht1',hs1⟩:=hsets v H'' hout m e h1
     obtain ⟨k,hk',hm2,hg2,i2,ht2',hs2⟩:=hsets v H'' hout m e' h2
     obtain ⟨_,_,_,_,_,_,hjl⟩:=hown j hj
     obtain ⟨_,_,_,_,_,_,hkl⟩:=hown k hk'
     have hjk:k=j:=hI.nodup k j (I.big k) (Ifc.big_get hkl) (by rw [← hm2,hm1]; exact Ifc.big_get hjl)
     subst hjk
     have:i1=i2:=(List.getElem?_inj (List.getElem?_eq_some_iff.1 ht1').1 htn).1 (ht1'.trans ht2'.symm)
     subst this
     rw [hs1] at hs2
     exact (Prod.mk.inj (Option.some.inj hs2)).2
   . intro m e hm
     obtain ⟨j,hj,rfl,hg,_⟩:=hsets v H'' hout m e hm
     obtain ⟨hs,hb⟩:=hseenT j hj
     rw [← hb]
     exact (hrenOwn j e hg hs).2
   . intro i e hi
     obtain ⟨j,hj,hg⟩:=hnewsAt i e hi
     have hjm:=List.mem_of_getElem? hj
     obtain ⟨hs,hnk⟩:=hseenK j hjm
     have hout':I.out base keep j=base+i:=by
      unfold Ifc.out
      rw [hnk,boolC_false]
      have h1:=q3j hjm
      have:idxN j keep=i:=(List.getElem?_inj (List.getElem?_eq_some_iff.1 h1).1 hkn).1 (h1.trans hj.symm)
      rw [this]
     obtain ⟨ho,hor⟩:=hrenOwn j e hg hs
     refine ⟨ho,hout'▸hor,?_⟩
     obtain ⟨e0,l,he,he0,hl⟩:=hatJ j e hg
     refine ⟨l,by rw [← hout',hseen j hs]; exact hl,.inl ?_⟩
     rcases hH2.fresh j _ l he he0 hl with h1 | ⟨k,E,lk,hk1,hko,hk2,hk3⟩
     . exact h1
     . exfalso
       have hkt:=ht1 k E hk1 hko
       obtain ⟨i3,hi3⟩:=List.mem_iff_getElem?.1 hkt
       obtain ⟨e3,_,hg3⟩:=hout.sets i3 k hi3
       obtain ⟨e4,l4,he4,ho4,hl4⟩:=hatJ k e3 hg3
       obtain ⟨_,l2,_,_,hb2,hv2,hkl⟩:=hown k hkt
       rw [hb2] at hk2; cases hk2
       rw [hle _ _ hv2] at hl4; cases hl4
       refine hH2.sep k j _ _ lk l he4 he ho4 he0 ?_ (hle _ _ hv2) hl hk3
       have:=hk j hjm; omega
   . intro i j l l' hij hi hj hl hl'
     rw [hlenn] at hi hj
     have hone:∀ i,i<keep.length->∀ l,βb (base+i)=some l->∃ k,keep[i]? = some k/\β'' k=some l:=by
      intro i hi l hl
      have hl:(if base<=base+i/\base+i<base+keep.length then (keep[base+i - base]?).bind β'' else β (base+i))=some l:=hl
      rw [if_pos (by omega),show base+i - base=i from by omega,List.getElem?_eq_getElem hi] at hl
      exact ⟨_,List.getElem?_eq_getElem hi,hl⟩
     obtain ⟨k1,hk1,hb1⟩:=hone i hi l hl
     obtain ⟨k2,hk2,hb2⟩:=hone j hj l' hl'
     obtain ⟨n1,_,hg1⟩:=hout.news i k1 hk1
     obtain ⟨n2,_,hg2⟩:=hout.news j k2 hk2
     obtain ⟨e1,_,he1,ho1,_⟩:=hatJ k1 n1 hg1
     obtain ⟨e2,_,he2,ho2,_⟩:=hatJ k2 n2 hg2
     refine hH2.sep k1 k2 _ _ l l' he1 he2 ho1 ho2 (fun h => ?_) hb1 hb2
     subst h
     exact hij ((List.getElem?_inj (List.getElem?_eq_some_iff.1 hk1).1 hkn).1 (hk1.trans hk2.symm))
def q7c:List SO->Nat->List Nat
 | [],_=>[]
 | E::Es,k=>if E.owned then k::q7c Es (k+1) else q7c Es (k+1)
theorem q2g:∀ (Es:List SO) (k j:Nat),j∈q7c Es k↔∃ i E,j=k+i/\Es[i]? = some E/\E.owned=true
 | [],k,j=>by simp [q7c]
 | E::Es,k,j=>by
   have ih:=q2g Es (k+1) j
   have hstep:(∃ i E',j=k+1+i/\Es[i]? = some E'/\E'.owned=true)->∃ i E',j=k+i/\(E::Es)[i]? = some E'/\E'.owned=true:=fun ⟨i,E',h,h',h3⟩=>⟨i+1,E',by omega,by simpa using h',h3⟩
   unfold q7c
   split
   . rename_i ho
     rw [List.mem_cons,ih]
     constructor
     . rintro (rfl | h)
       . exact ⟨0,_,rfl,rfl,ho⟩
       . exact hstep h
     . rintro ⟨i,E',h,h',h3⟩
       cases i with
       | zero=>exact .inl h
       | succ i=>exact .inr ⟨i,E',by omega,by simpa using h',h3⟩
   . rename_i ho
     rw [ih]
     constructor
     . exact hstep
     . rintro ⟨i,E',h,h',h3⟩
       cases i with
       | zero=>simp at h'; subst h'; exact absurd h3 ho
       | succ i=>exact ⟨i,E',by omega,by simpa using h',h3⟩
theorem qli:∀ (Es:List SO) (k:Nat),(q7c Es k).Nodup
 | [],k=>by simp [q7c]
 | E::Es,k=>by
   unfold q7c
   split
   . refine List.nodup_cons.2 ⟨fun h => ?_,qli Es (k+1)⟩
     obtain ⟨i,_,h,_⟩:=(q2g Es (k+1) k).1 h
     omega
   . exact qli Es (k+1)
def SetsQ (big:Nat->Nat) (p:Nat->Bool) (g:Nat->Nat) (H:List SO):List Nat->List (Nat × SO)->Prop
 | j::js,x::rs=>(x.1=big j/\qaf p g H[j]? x.2)/\SetsQ big p g H js rs
 | [],[]=>True
 | _,_=>False
def NewsQ (p:Nat->Bool) (g:Nat->Nat) (H:List SO):List Nat->List SO->Prop
 | j::js,e::rs=>qaf p g H[j]? e/\NewsQ p g H js rs
 | [],[]=>True
 | _,_=>False
theorem SetsQ.length {big p g H}:∀ {js:List Nat} {rs:List (Nat × SO)},SetsQ big p g H js rs->rs.length=js.length
 | [],[],_=>rfl
 | _::_,_::_,h=>by simp only [List.length_cons]; rw [SetsQ.length h.2]
 | [],_::_,h=>h.elim
 | _::_,[],h=>h.elim
theorem SetsQ.get {big p g H}:∀ {js:List Nat} {rs:List (Nat × SO)},SetsQ big p g H js rs->∀ (i j:Nat),js[i]? = some j->∃ e,rs[i]? = some (big j,e)/\qaf p g H[j]? e
 | [],[],_,i,j,h=>by simp at h
 | j'::js,x::rs,h,0,j,hE=>by simp at hE; subst hE; exact ⟨x.2,by simp [← h.1.1],h.1.2⟩
 | j'::js,x::rs,h,i+1,j,hE=>by
   obtain ⟨e,a,b⟩:=SetsQ.get h.2 i j (by simpa using hE)
   exact ⟨e,by simpa using a,b⟩
 | [],_::_,h,_,_,_=>h.elim
 | _::_,[],h,_,_,_=>h.elim
theorem NewsQ.length {p g H}:∀ {js:List Nat} {rs:List SO},NewsQ p g H js rs->rs.length=js.length
 | [],[],_=>rfl
 | _::_,_::_,h=>by simp only [List.length_cons]; rw [NewsQ.length h.2]
 | [],_::_,h=>h.elim
 | _::_,[],h=>h.elim
theorem NewsQ.get {p g H}:∀ {js:List Nat} {rs:List SO},NewsQ p g H js rs->∀ (i j:Nat),js[i]? = some j->∃ e,rs[i]? = some e/\qaf p g H[j]? e
 | [],[],_,i,j,h=>by simp at h
 | j'::js,x::rs,h,0,j,hE=>by simp at hE; subst hE; exact ⟨x,by simp,h.1⟩
 | j'::js,x::rs,h,i+1,j,hE=>by
   obtain ⟨e,a,b⟩:=NewsQ.get h.2 i j (by simpa using hE)
   exact ⟨e,by simpa using a,b⟩
 | [],_::_,h,_,_,_=>h.elim
 | _::_,[],h,_,_,_=>h.elim
structure Ifc.EndsQ (I:Ifc) (base:Nat) (keep:List Nat) (r:SumRes) (v:SV) (H:List SO):Prop where
 val:(v.ren (I.out base keep)).Imp r.v
 uv:v.uses (I.seen keep)=true
 sets:SetsQ I.big (I.seen keep) (I.out base keep) H (q7c I.ents 0) r.sets
 news:NewsQ (I.seen keep) (I.out base keep) H keep r.news
theorem qhg {c:Cfg} {O:Nat->Prop} {w0 w:World} {β:Val} {H:List SO} {base:Nat} {f:FuncId} {vs:List Value} (hH:HeapRel0 c.P O w0 β H w)
  (I:Ifc) (hgl:∀ g j,c.glob g=some j->I.known j=true/\∃ l,β (I.big j)=some l/\l.blk=g/\l.off=0) (ha:SV.denL β (SV.renL I.big I.args)=some vs) (hI:I.FitsQ H) {r:SumRes} (keep:List Nat) (hk:∀ j∈keep,I.names.length<=j) (hkn:keep.Nodup)
  (hr:Runs c f I.args I.ents (I.EndsQ base keep r)):SumSem c.P H β w base f vs r:=by
 refine qd0 hH I hgl ha hI (q7c I.ents 0) keep (fun j E h ho=>(q2g _ _ _).2 ⟨j,E,by omega,h,ho⟩) (fun j hj => ?_) hk hkn (qli _ _) hr.1 fun hH' hG ha'=>(hr.2 _ _ _ _ _ hH' hG ha').mono fun e w' hcame => ?_
 . obtain ⟨i,E,h,h',ho⟩:=(q2g _ _ _).1 hj
   exact ⟨E,by rw [h,Nat.zero_add]; exact h',ho⟩
 . obtain ⟨v,H',x,β',he,h,hle,hv,hH2⟩:=hcame
   exact ⟨v,H',x,β',he,⟨h.val,h.uv,h.sets.length,h.sets.get,h.news.length,h.news.get⟩,hle,hv,hH2⟩
theorem qsd {c:Cfg} (hc:CfgOK c) (n:Nat) {O:Nat->Prop} {w0 w:World} {β:Val} {H:List SO} {base:Nat} {f:FuncId} {vs:List Value} (hH:HeapRel0 c.P O w0 β H w)
  (I:Ifc) (hgl:∀ g j,c.glob g=some j->I.known j=true/\∃ l,β (I.big j)=some l/\l.blk=g/\l.off=0) (ha:SV.denL β (SV.renL I.big I.args)=some vs) (hI:I.FitsQ H) {r:SumRes} (keep:List Nat) (hk:∀ j∈keep,I.names.length<=j) (hkn:keep.Nodup)
  (hob:(qka c n f I.args I.ents).Ob (I.EndsQ base keep r) fun _=>False):SumSem c.P H β w base f vs r:=qhg hH I hgl ha hI keep hk hkn (q5o hc hob)
structure Ifc.OutO (I:Ifc) (base:Nat) (turn keep:List Nat) (r:SumRes) (v:SV) (H:List SO):Prop where
 val:(v.ren (I.out base keep)).Imp r.v
 uv:v.uses (I.seen keep)=true
 setsLen:r.sets.length=turn.length
 sets:∀ (i j:Nat),turn[i]? = some j->∃ e,r.sets[i]? = some (I.big j,e)/\qae (I.seen keep) (I.out base keep) H[j]? e
 newsLen:r.news.length=keep.length
 news:∀ (i j:Nat),keep[i]? = some j->∃ e,r.news[i]? = some e/\j7f (I.seen keep) (I.out base keep) H[j]? e
end
noncomputable section
variable {α:Type}
def SC.nms:SC->List Nat
 | .rest nm _=>[nm]
 | _=>[]
def SFn.nms:SFn->List Nat
 | .yield nm=>[nm]
 | _=>[]
mutual
def SV.nms:SV->List Nat
 | .ptr a=>[a.nm]
 | .slice a _ c=>a.nm::c.nms
 | .tail a _ _ c=>a.nm::c.nms
 | .map nm=>[nm]
 | .func g xs ys=>app g.nms (app (SV.nmsL xs) (SV.nmsL ys))
 | .iface _ v=>v.nms
 | .agg l=>SV.nmsL l
 | .tuple l=>SV.nmsL l
 | _=>[]
def SV.nmsL:List SV->List Nat
 | []=>[]
 | v::l=>app v.nms (SV.nmsL l)
end
def renO (f:Nat->Nat) (e:SO):SO:=SO.rec (motive:=fun _=>SO) (fun c w el=>.own (c.ren f) w el) (fun c=>.row (c.ren f)) (fun _ _ _ _ _ _ _ _=>.gone) (fun _=>.gone) .gone (fun o=>.obj (o.ren f)) e
theorem given_of {p:Nat->Bool} {g:Nat->Nat} {e:SO} (h:e.keeps p=true) (ho:e.owned=true):qaf p g (some e) (renO g e):=by
 cases e with
 | own c w el =>
   refine .inl ⟨c,w,el,c.ren g,rfl,?_,Cells.Imp.refl _,rfl⟩
   cases c with
   | lst l=>exact h
   | fn=>cases h
   | raw=>trivial
 | row=>cases ho
 | loop=>cases h
 | deferred=>cases h
 | gone=>cases h
 | obj o=>exact .inr ⟨o,o.ren g,rfl,h,fun _ _ x=>x,rfl⟩
end
noncomputable section
variable {α:Type}
end
noncomputable section
open Go.RowKit
end
end Go.Sim
namespace Go.Proofs.YthkgcljngalafaaDoor.Aes
noncomputable section
open Go.Sim
open Go.Proofs
variable {α:Type}
theorem qyc {c:Cfg} {f:FuncId} {args:List SV} {H:List SO} {D E:SV->List SO->Prop} (h:Runs c f args H D) (hde:∀ v H,D v H->E v H):Runs c f args H E :=
 ⟨h.1,fun O w0 w β vs hH hG ha=>(h.2 O w0 w β vs hH hG ha).mono fun _ _ ⟨v,H',x,β',h1,h2,h3⟩=>⟨v,H',x,β',h1,hde _ _ h2,h3⟩⟩
end
end Go.Proofs.YthkgcljngalafaaDoor.Aes
namespace Go.Sim
noncomputable section
theorem qr9 {js:List Nat} {M:Cut} {names:List Nat} {t:Tree} {K:(SV × List (Option SO)) ⊕ Seen->Prop} (h:∀ z:Nat->Nat->Nat,∃ ds ps r,outL js M names t ds z=(ps,some r)/\(∀ p∈ps,p)/\K r) {D:SV->List SO->Prop} {S:SS->Prop}
  (hD:∀ v es,K (.inl (v,es))->∀ H:List SO,js.map (fun j=>H[j]?)=es->D v H) (hS:∀ V,K (.inr V)->∀ s,qui M names s=V->S s):t.Ob D S:=by
 have z0:Nat->Nat->Nat:=fun _ _=>0
 induction t with
 | done v' H =>
   obtain ⟨ds,ps,r,h,_,hk⟩:=h z0
   have h':([],some (.inl (v',mapN (fun j=>nth H j) js)))=(ps,some r):=h
   have h1:=Option.some.inj (Prod.mk.inj h').2
   rw [← h1] at hk
   refine hD v' _ hk H ?_
   rw [qla]
   exact List.map_congr_left fun j _=>(qda H j).symm
 | stop s =>
   obtain ⟨ds,ps,r,h,_,hk⟩:=h z0
   have h':([],some (.inr (qui M names s)))=(ps,some r):=h
   have h1:=Option.some.inj (Prod.mk.inj h').2
   rw [← h1] at hk
   exact hS _ hk s rfl
 | need p t ih =>
   have h':∀ z,∃ ds ps r,(p::(outL js M names t ds z).1,(outL js M names t ds z).2)=(ps,some r)/\(∀ p∈ps,p)/\K r:=h
   refine ⟨?_,ih fun z => ?_⟩
   . obtain ⟨ds,ps,r,h1,h2,_⟩:=h' z0
     exact h2 p (by rw [← (Prod.mk.inj h1).1]; exact List.mem_cons_self)
   . obtain ⟨ds,ps,r,h1,h2,h3⟩:=h' z
     exact ⟨ds,_,r,Prod.ext rfl (Prod.mk.inj h1).2,fun q hq=>h2 q (by rw [← (Prod.mk.inj h1).1]; exact List.mem_cons_of_mem _ hq),h3⟩
 | fork b t f iht ihf =>
   have key:∀ z,∃ rs ps r,((boolC b (outL js M names t rs z) (outL js M names f rs z))=(ps,some r))/\(∀ p∈ps,p)/\K r:=by
    intro z
    obtain ⟨ds,ps,r,h1,h2,h3⟩:=h z
    cases ds with
    | nil=>cases (Prod.mk.inj (show ([],none)=(ps,some r) from h1)).2
    | cons d rs =>
      have h1:((b=d)::(boolC d (outL js M names t rs z) (outL js M names f rs z)).1,(boolC d (outL js M names t rs z) (outL js M names f rs z)).2)=(ps,some r):=h1
      have hb:b=d:=h2 _ (by rw [← (Prod.mk.inj h1).1]; exact List.mem_cons_self)
      exact ⟨rs,_,r,Prod.ext rfl (by rw [hb]; exact (Prod.mk.inj h1).2),fun q hq=>h2 q (by rw [← (Prod.mk.inj h1).1]; refine List.mem_cons_of_mem _ ?_; rw [hb] at hq; exact hq),h3⟩
   refine ⟨fun ht=>iht fun z => ?_,fun hf=>ihf fun z => ?_⟩
   . obtain ⟨rs,ps,r,h1,h2⟩:=key z
     rw [ht] at h1
     exact ⟨rs,ps,r,h1,h2⟩
   . obtain ⟨rs,ps,r,h1,h2⟩:=key z
     rw [hf] at h1
     exact ⟨rs,ps,r,h1,h2⟩
 | stuck =>
   obtain ⟨ds,ps,r,h1,_⟩:=h z0
   cases (Prod.mk.inj (show ([],none)=(ps,some r) from h1)).2
 | any k ih =>
   intro y
   let c:(Nat->Nat->Nat)->Nat->Nat->Nat:=fun z i=>Nat.rec (motive:=fun _=>Nat->Nat) y (fun j _=>z j) i
   exact ih y fun z=>h (c z)
def SeenTurn {A:Type} (k0:Nat) (C:A->Cut) (Q:A->Prop) (M:Cut) (names:List Nat) (V:Seen):Prop :=
 ∃ (a:A) (N:Nat) (ms:List (Nat × Nat × SV)) (es:List (Nat × HP)),Q a/\V=qtc ms es (q2a names N (C a))/\boolC (q0a k0 names M (C a)) (allN qva (C a).heap) false=true /\
   (∀ m∈ms,∀ (p:SP) (u:Option SV),(C a).frames[m.1]? = some p->p.tmps[m.2.1]? = some u->∃ w,u=some w/\m.2.2.Imp (w.ren (q8a names N)))/\(∀ e∈es,∀ E0,(C a).heap[e.1]? = some E0->ImpE (q8a names N) (some e.2) E0)
theorem SeenTurn.of {A:Type} {k0:Nat} {C:A->Cut} {Q:A->Prop} {M:Cut} {names:List Nat} {N:Nat} (a:A) (hq:Q a) (hn:boolC (q0a k0 names M (C a)) (allN qva (C a).heap) false=true):SeenTurn k0 C Q M names (q2a names N (C a)) :=
 ⟨a,N,[],[],hq,rfl,hn,by simp,by simp⟩
theorem qry {A:Type} {c:Cfg} {k0:Nat} {C:A->Cut} {Q:A->Prop} {D:SV->List SO->Prop} {s:SS} (st:Option (Nat × Nat)) (n:Nat) {M:Cut} {js names:List Nat} {K:SV × List (Option SO)->Prop}
  (h:∀ z,∃ ds ps r,outL js M names (sim1 (c.at st) n s) ds z=(ps,some r)/\(∀ p∈ps,p)/\Sum.rec (motive:=fun _=>Prop) K (SeenTurn k0 C Q M names) r)
  (hD:∀ v es,K (v,es)->∀ H:List SO,js.map (fun j=>H[j]?)=es->D v H):q6d c k0 C Q D s :=
 ⟨st,n,qr9 h (fun v es hk H hH=>hD v es hk H hH) fun V hk s hv=>by
  obtain ⟨a,N,ms,es,hq,e,hn,hT,hE⟩:=(hk:SeenTurn k0 C Q M names V)
  exact qfm a hq names (q30 (N:=N) ms es (by rw [hv]; exact e) hn hT hE)⟩
end
noncomputable section
structure MapOK (es:List MapEntry) (c:Nat):Prop where
 nd:(es.map fun e=>e.born).Nodup
 lt:∀ e∈es,e.born<c
structure VisOK (es:List MapEntry) (seen:List Nat):Prop where
 nd:seen.Nodup
 mem:∀ b∈seen,∃ e∈es,e.born=b
theorem q3t (es:List MapEntry):VisOK es []:=⟨List.nodup_nil,fun _ h=>by cases h⟩
theorem qhm:∀ {es:List MapEntry},(es.map fun e=>e.born).Nodup->∀ {e e'},e∈es->e'∈es->e.born=e'.born->e=e'
 | [],_,_,_,h,_,_=>by cases h
 | x::es,hn,e,e',h,h',hb=>by
   rw [List.map_cons,List.nodup_cons] at hn
   rcases List.mem_cons.1 h with h1 | h1
   . rcases List.mem_cons.1 h' with h2 | h2
     . rw [h1,h2]
     . exact absurd (show x.born∈es.map fun e=>e.born from List.mem_map.2 ⟨e',h2,by rw [← h1,hb]⟩) hn.1
   . rcases List.mem_cons.1 h' with h2 | h2
     . exact absurd (show x.born∈es.map fun e=>e.born from List.mem_map.2 ⟨e,h1,by rw [← h2,hb]⟩) hn.1
     . exact qhm hn.2 h1 h2 hb
theorem q7o {es:List MapEntry} (hn:(es.map fun e=>e.born).Nodup) {e:MapEntry} (h:e∈es):getB es e.born=e:=by
 unfold getB
 cases hf:es.find? fun x=>x.born == e.born with
 | none=>exact absurd (List.find?_eq_none.1 hf e h) (by simp)
 | some x =>
   have h1:=List.find?_some hf
   have h2:=List.mem_of_find?_eq_some hf
   exact qhm hn h2 h (by simpa using h1)
theorem q8j (seen:List Nat) (b:Nat):qwe (app seen [b])=b:=by
 unfold qwe
 rw [qza]; simp
theorem left_mem {es:List MapEntry} {seen:List Nat} {e:MapEntry}:e∈qoa es seen↔e∈es/\e.born ∉ seen:=by
 unfold qoa
 rw [List.mem_filter]
 simp
theorem qsy {l:List MapEntry} (h:l.isEmpty=false) (z:Nat):qid l z∈l:=by
 have hl:l≠[]:=by intro e; subst e; cases h
 have h0:0<l.length:=List.length_pos_iff.2 hl
 unfold qid
 have hz:z % l.length<l.length:=Nat.mod_lt _ h0
 rw [List.getElem?_eq_getElem hz]
 exact List.getElem_mem hz
theorem q50 {es:List MapEntry} {seen:List Nat} {e:MapEntry} (h:e∈qoa es seen):(qoa es (app seen [e.born])).length<(qoa es seen).length:=by
 have h1:qoa es (app seen [e.born])=(qoa es seen).filter fun x => !(x.born == e.born):=by
  unfold qoa
  rw [qza,List.filter_filter]
  congr 1
  funext x
  rw [List.contains_eq_any_beq,List.contains_eq_any_beq,List.any_append]
  simp [Bool.and_comm,BEq.comm]
 rw [h1]
 exact List.length_filter_lt_length_iff_exists.2 ⟨e,h,by simp⟩
theorem qev {es:List MapEntry} {seen:List Nat} (h:(qoa es seen).isEmpty=true):∀ e∈es,e.born∈seen:=by
 intro e he
 have hn:qoa es seen=[]:=by simpa using h
 by_cases c:e.born∈seen
 . exact c
 . have:e∈qoa es seen:=left_mem.2 ⟨he,c⟩
   rw [hn] at this; cases this
theorem q0q {es:List MapEntry} {seen:List Nat} (h:VisOK es seen) {e:MapEntry} (he:e∈qoa es seen):VisOK es (app seen [e.born]):=by
 obtain ⟨h1,h2⟩:=left_mem.1 he
 rw [qza]
 refine ⟨List.nodup_append.2 ⟨h.nd,by simp,fun a ha b hb => ?_⟩,fun b hb => ?_⟩
 . rw [List.mem_singleton] at hb
   rintro rfl
   exact h2 (hb▸ha)
 . rcases List.mem_append.1 hb with hb | hb
   . exact h.mem b hb
   . exact ⟨e,h1,(List.mem_singleton.1 hb).symm⟩
theorem qty {es:List MapEntry} {seen:List Nat} {c:Nat} (h:MapOK es c):¬ qi2 es seen c:=by
 rintro ⟨_,h1,h2⟩
 cases es with
 | nil=>exact h1 rfl
 | cons e es =>
   have:=h2 e (by simp)
   have:=h.lt e (by simp)
   omega
theorem qim {β:Type} [DecidableEq β]:∀ {l l':List β},l.Nodup->l'.Nodup->(∀ x,x∈l↔x∈l')->l.Perm l'
 | [],l',_,_,h=>by
   cases l' with
   | nil=>exact .refl _
   | cons a l'=>exact absurd ((h a).2 (by simp)) (by simp)
 | a::l,l',hn,hn',h=>by
   rw [List.nodup_cons] at hn
   have ha:a∈l':=(h a).1 (by simp)
   refine .trans (.cons a (qim hn.2 (hn'.erase a) fun x => ?_)) (List.perm_cons_erase ha).symm
   rw [hn'.mem_erase_iff]
   constructor
   . intro hx
     exact ⟨fun e=>hn.1 (e▸hx),(h x).1 (by simp [hx])⟩
   . rintro ⟨h1,h2⟩
     rcases List.mem_cons.1 ((h x).2 h2) with e | e
     . exact absurd e h1
     . exact e
theorem jtd {es:List MapEntry} {seen:List Nat} {c:Nat} (hm:MapOK es c) (hv:VisOK es seen) (h:(qoa es seen).isEmpty=true):(seen.map (getB es)).Perm es:=by
 have h1:seen.Perm (es.map fun e=>e.born):=qim hv.nd hm.nd fun x=>by
  constructor
  . intro hx
    obtain ⟨e,he,hb⟩:=hv.mem x hx
    exact List.mem_map.2 ⟨e,he,hb⟩
  . intro hx
    obtain ⟨e,he,rfl⟩:=List.mem_map.1 hx
    exact qev h e he
 have h2:=h1.map (getB es)
 rw [List.map_map] at h2
 refine h2.trans ?_
 have:es.map (getB es ∘ fun e=>e.born)=es:=by
  conv=>rhs; rw [← List.map_id es]
  exact List.map_congr_left fun e he=>q7o hm.nd he
 rw [this]
end
noncomputable section
end
noncomputable section
theorem qjm {P:Program} {O:Nat->Prop} {w0 w:World} {β:Val} {H:List SO} {base:Nat} {f:FuncId} {vs:List Value} (hH:HeapRel0 P O w0 β H w) {n:Nat} {k v k' v':MSh} {es:List MapEntry} {c:Nat} (hn:H[n]? = some (.obj (.amap k v es c))) {r:SV} {news:List SO}
  (h:SumSem P H β w base f vs ⟨r,[(n,.obj (.amap k' v' es c))],news⟩):SumSem P H β w base f vs ⟨r,[],news⟩:=by
 intro hf
 obtain ⟨_,h2⟩:=h hf
 have hx:∃ l,β n=some l/\w.heap[l.blk]? = some (.map es.toArray c):=by
  obtain ⟨l,x,hl,_,hd,hh⟩:OwnRel P β w n (.obj (.amap k v es c)):=(hH.entries n _ hn).toOwn rfl
  exact ⟨l,hl,by rw [hh,(SObj.amap_den.1 hd).2]⟩
 obtain ⟨l,hl,hh⟩:=hx
 have key:∀ {β':Val} {w':World},Eff P β w base [(n,.obj (.amap k' v' es c))] news β' w'->Eff P β w base [] news β' w':=fun {β' w'} hE=>by
  obtain ⟨l',x',hl',_,hd',hh'⟩:OwnRel P β' w' n (.obj (.amap k' v' es c)):=hE.turned n _ (by simp)
  have e1:l'=l:=by rw [hE.le _ _ hl] at hl'; exact (Option.some.inj hl').symm
  rw [(SObj.amap_den.1 hd').2,e1] at hh'
  refine ⟨hE.le,hE.os,hE.tape,hE.output,hE.drawn,hE.size,hE.dom,fun b hb _ => ?_,fun _ _ _ h=>(by cases h),fun _ _ h=>(by cases h),fun i e he => ?_,hE.apart⟩
  . by_cases c':l.blk=b
    . rw [← c',hh,hh']
    . exact hE.frame b hb fun m e l2 hm hl2=>by
       have hm:=List.mem_singleton.1 hm
       cases hm
       rw [hl] at hl2; cases hl2
       exact c'
  . obtain ⟨h1,h2,l2,h3,h4⟩:=hE.made i e he
    refine ⟨h1,h2,l2,h3,.inl ?_⟩
    rcases h4 with h4 | ⟨m,l3,h5,_⟩
    . exact h4
    . have h5:=List.mem_singleton.1 h5
      cases h5
 refine ⟨fun _ _ h=>(by cases h),?_⟩
 rcases h2 with ⟨hb,hc⟩ | ⟨v1,w1,β1,h3,h4,h5⟩
 . exact .inl ⟨hb,hc.mono fun e w' ⟨v1,β1,h3,h4,h5⟩=>⟨v1,β1,h3,h4,key h5⟩⟩
 . exact .inr ⟨v1,w1,β1,h3,h4,key h5⟩
end
end Go.Sim
namespace Go.Proofs.YthkgcljngalafaaDoor.Aes
noncomputable section
open Go.Sim
open Go.Proofs
variable {α:Type}
set_option maxRecDepth 1000000
theorem q9a {k:IntKind} {a b:SI} (h:a.den=b.den):(SV.int k a).Imp (.int k b):=fun _ _ hx=>by
 simp only [SV.den] at hx ⊢
 rw [← h]; exact hx
theorem q60 {l m:List SV} (h:SV.ImpL l m):(SV.agg l).Imp (.agg m):=fun β x hx=>by
 simp only [SV.den] at hx ⊢
 cases hl:SV.denL β l with
 | none=>rw [hl] at hx; cases hx
 | some vs=>rw [h β _ hl]; rw [hl] at hx; exact hx
theorem quc {p:Prop} (h:p) (n:Nat):∀ q∈repN p n,q:=by
 intro q hq
 rw [qgd] at hq
 rw [List.eq_of_mem_replicate hq]
 exact h
theorem q9k {l m:List Prop} (h:∀ p∈l,p) (h':∀ p∈m,p):∀ p∈app l m,p:=by
 intro p hp
 rw [qza] at hp
 rcases List.mem_append.1 hp with hp | hp
 . exact h p hp
 . exact h' p hp
theorem qnf {C:Cut} {i j:Nat} {v:SV} (h:((C.frames[i]?).bind fun p=>p.tmps[j]?)=some (some v)) {p:SP} {u:Option SV} (hp:C.frames[i]? = some p) (hu:p.tmps[j]? = some u) {w:SV} {f:Nat->Nat} (hi:w.Imp (v.ren f)):∃ x,u=some x/\w.Imp (x.ren f):=by
 rw [hp] at h
 simp only [Option.bind_some,hu,Option.some.injEq] at h
 exact ⟨v,h,hi⟩
def is0 (n:SN):Bool:=match n with
 | .lit 0=>true
 | _=>false
theorem q1q {n:SN} (h:is0 n=true):n=.lit 0:=by
 unfold is0 at h
 split at h
 . rfl
 . cases h
def cB (p:Prop):Bool:=@decide p (Classical.propDecidable _)
theorem qsb {p:Prop} (h:p):cB p=true:=@decide_eq_true _ (Classical.propDecidable _) h
theorem qfb {p:Prop} (h:¬ p):cB p=false:=@decide_eq_false _ (Classical.propDecidable _) h
theorem cBi {p:Prop}:cB p=true↔p:=by
 constructor
 . intro h
   by_cases hp:p
   . exact hp
   . rw [qfb hp] at h; cases h
 . exact qsb
def i64V (v:SV):Option SI:=v.asInt none fun k n=>boolC (i64K k) (some n) none
theorem qbf {v:SV} {n:SI} (h:i64V v=some n):v=.int .i64 n:=by
 cases v <;> first | (cases h; done) | skip
 rename_i k m
 cases k <;> first | (cases h; rfl) | (cases h; done)
def keepT (T:List SV) (l:List Nat):List (Nat × SV):=mapN (fun i=>(i,(nth T i).getD qua)) l
def q8o (v:SV):Option Nat:=match v with
 | .ptr ⟨nm,.lit 0⟩=>some nm
 | _=>none
theorem qwi {v:SV} {nm:Nat} (h:q8o v=some nm):v=.ptr ⟨nm,.lit 0⟩:=by
 unfold q8o at h
 split at h
 . cases h; rfl
 . cases h
def q2s (e:SO):Option ((MSh × MSh) × List MapEntry × Nat):=match e with
 | .obj (.amap k v es c)=>some ((k,v),es,c)
 | _=>none
theorem q3p {e:SO} {r:(MSh × MSh) × List MapEntry × Nat} (h:q2s e=some r):e=.obj (.amap r.1.1 r.1.2 r.2.1 r.2.2):=by
 unfold q2s at h
 split at h
 . cases h; rfl
 . cases h
theorem out1 {I:Ifc} {base nm:Nat} (h:I.names.length<=nm):I.out base [nm] nm=base:=by
 unfold Ifc.out
 have hk:I.known nm=false:=by
  unfold Ifc.known
  rw [qga]
  cases hb:Nat.blt nm I.names.length with
  | false=>rfl
  | true=>have:nm<I.names.length:=Nat.le_of_ble_eq_true hb; omega
 rw [hk]
 show base+boolC (Nat.beq nm nm) 0 _=base
 rw [Nat.beq_refl]; rfl
def j0:Junk:=⟨fun _ _=>undef,fun _ _=>undef⟩
def j8f (ss:List SF):List (List Nat)->List SP:=List.rec (motive:=fun _=>List (List Nat)->List SP) (fun _=>[]) (fun s _ ih ls=>List.rec (motive:=fun _=>List SP) (qow s []::ih []) (fun l r _=>qow s (keepT s.tmps l)::ih r) ls) ss
def qpw (e:SO):Option (((Nat->Value) × Nat) × Bool × TypeId):=match e with
 | .own (.raw V n) wh el=>some ((V,n),wh,el)
 | _=>none
theorem q83 {e:SO} {r:((Nat->Value) × Nat) × Bool × TypeId} (h:qpw e=some r):e=.own (.raw r.1.1 r.1.2) r.2.1 r.2.2:=by
 unfold qpw at h
 split at h
 . cases h; rfl
 . cases h
def cfgP0:Cfg:=qvh (qjc [])
theorem cfgP0OK:CfgOK cfgP0:=q8d (by simp)
def cndQ (v m:Nat):Nat->Nat->List Prop:=Nat.rec (motive:=fun _=>Nat->Nat->List Prop) (fun _ _=>[]) (fun _ ih j x=>Nat.rec (motive:=fun _=>List Prop) [decide (v=j)=true] (fun y _=>(decide (v=j)=false)::ih (Nat.succ j) y) x) m
theorem qta {β:Type} {f g:Nat->β} {k:Nat} (h:mapN f (qba k 0)=mapN g (qba k 0)) {l:Nat} (h2:l<k):f l=g l:=by
 rw [qla,qla,qcb,List.map_inj_left] at h
 exact h l (by simp [h2])
end
noncomputable section
open Go.Sim
open Go.Proofs
variable {α:Type}
abbrev Dg:={ s:ByteArray // s.size=32 }
abbrev Mk:=Int × Dg
def Dg.at (d:Dg) (j:Nat):BitVec 8:=(d.1.data.getD j 0).toBitVec
def dgOf (X:Nat->BitVec 8):Dg:=⟨⟨((List.range 32).map fun j=>UInt8.ofBitVec (X j)).toArray⟩,by show (List.toArray _).size=32; simp⟩
theorem qhd (X:Nat->BitVec 8) {j:Nat} (h:j<32):(dgOf X).at j=X j:=by
 unfold Dg.at dgOf
 simp [h]
theorem qqj {d e:Dg} (h:∀ j,j<32->d.at j=e.at j):d=e:=by
 obtain ⟨⟨d⟩,hd⟩:=d
 obtain ⟨⟨e⟩,he⟩:=e
 have hd:d.size=32:=hd
 have he:e.size=32:=he
 apply Subtype.ext
 show ByteArray.mk d=ByteArray.mk e
 congr 1
 refine Array.ext (by omega) fun i h1 h2 => ?_
 have:=h i (by omega)
 unfold Dg.at at this
 simp only [Array.getD_eq_getD_getElem?,Array.getElem?_eq_getElem h1,Array.getElem?_eq_getElem h2,Option.getD_some] at this
 exact UInt8.toBitVec_inj.1 this
theorem q66 (d:Dg):dgOf d.at=d:=qqj fun _ hj=>qhd _ hj
instance:Inhabited Mk:=⟨(0,dgOf fun _=>0#8)⟩
def mkC (m:Mk):List Value:=.int .i64 m.1::(List.range 32).map fun j=>.int .u8 ((m.2.at j).toNat:Int)
theorem q70 (m:Mk):(mkC m).length=33:=by simp [mkC]
theorem qjh (m:Mk):(mkC m)[0]? = some (.int .i64 m.1):=rfl
theorem q5f (m:Mk) {j:Nat} (h:j<32):(mkC m)[j+1]? = some (.int .u8 ((m.2.at j).toNat:Int)):=by
 unfold mkC
 simp [h]
def keyM (m:Mk):Value:=.agg (mkC m).toArray
def mkOf (v:Value):Mk:=(vNum (qtd v 0),dgOf fun j=>BitVec.ofInt 8 (vNum (qtd v (j+1))))
theorem q9j (m:Mk) (j:Nat):qtd (keyM m) j=(mkC m).getD j undef:=by
 unfold qtd keyM
 simp
theorem qci (x:BitVec 8):BitVec.ofInt 8 (x.toNat:Int)=x:=by
 apply BitVec.eq_of_toNat_eq
 rw [BitVec.toNat_ofInt]
 have:=x.isLt
 omega
theorem qrj (m:Mk):mkOf (keyM m)=m:=by
 unfold mkOf
 refine Prod.ext ?_ (qqj fun j hj => ?_)
 . show vNum (qtd (keyM m) 0)=m.1
   rw [q9j,List.getD_eq_getElem?_getD,qjh]; rfl
 . rw [qhd _ hj,q9j,List.getD_eq_getElem?_getD,q5f m hj]
   exact qci _
theorem quy {a b:Mk} (h:keyM a=keyM b):a=b:=by rw [← qrj a,h,qrj]
def mkLt (a b:Mk):Prop:=a.1<b.1\/(a.1=b.1/\a.2.1.data.toList<b.2.1.data.toList)
theorem q80 {d e:Dg} (h:d.1.data.toList=e.1.data.toList):d=e:=by
 obtain ⟨⟨d⟩,hd⟩:=d
 obtain ⟨⟨e⟩,he⟩:=e
 have h:d.toList=e.toList:=h
 apply Subtype.ext
 show ByteArray.mk d=ByteArray.mk e
 congr 1
 exact Array.toList_inj.1 h
theorem qte (a:Mk):¬ mkLt a a:=by
 rintro (h | ⟨_,h⟩)
 . omega
 . exact List.lt_irrefl _ h
theorem qde {a b c:Mk} (h:mkLt a b) (h':mkLt b c):mkLt a c:=by
 rcases h with h | ⟨h1,h2⟩ <;> rcases h' with h' | ⟨h1',h2'⟩
 . exact .inl (by omega)
 . exact .inl (by omega)
 . exact .inl (by omega)
 . exact .inr ⟨by omega,List.lt_trans h2 h2'⟩
theorem qkm (a b:Mk):mkLt a b\/a=b\/mkLt b a:=by
 rcases Int.lt_trichotomy a.1 b.1 with h | h | h
 . exact .inl (.inl h)
 . by_cases h1:a.2.1.data.toList<b.2.1.data.toList
   . exact .inl (.inr ⟨h,h1⟩)
   . by_cases h2:b.2.1.data.toList<a.2.1.data.toList
     . exact .inr (.inr (.inr ⟨h.symm,h2⟩))
     . exact .inr (.inl (Prod.ext h (q80 (List.le_antisymm (List.not_lt.1 h2) (List.not_lt.1 h1)))))
 . exact .inr (.inr (.inl h))
def mkAt (V:Nat->Value) (i:Nat):Mk:=(vNum (V (i * 33)),dgOf fun j=>BitVec.ofInt 8 (vNum (V (i * 33+(j+1)))))
def mkL (V:Nat->Value) (n:Nat):List Mk:=(List.range n).map (mkAt V)
def MkV (V:Nat->Value) (n:Nat):Prop:=∀ i,i<n->V (i * 33)=.int .i64 (mkAt V i).1/\∀ j,j<32->V (i * 33+(j+1))=.int .u8 (((mkAt V i).2.at j).toNat:Int)
theorem qxi (V:Nat->Value) (n:Nat):(mkL V n).length=n:=by simp [mkL]
theorem jud {V:Nat->Value} {n j:Nat} (h:j<(mkL V n).length):(mkL V n)[j]=mkAt V j:=by simp [mkL]
def rowM (l:List Mk) (j:Nat):Value:=(mkC ((l[j / 33]?).getD default)).getD (j % 33) undef
theorem qal {l:List Mk} {i:Nat} (h:i<l.length):rowM l (i * 33)=.int .i64 l[i].1/\∀ j,j<32->rowM l (i * 33+(j+1))=.int .u8 ((l[i].2.at j).toNat:Int):=by
 unfold rowM
 refine ⟨?_,fun j hj => ?_⟩
 . rw [show i * 33 / 33=i by omega,show i * 33 % 33=0 by omega,List.getElem?_eq_getElem h,List.getD_eq_getElem?_getD,Option.getD_some,qjh]; rfl
 . rw [show (i * 33+(j+1)) / 33=i by omega,show (i * 33+(j+1)) % 33=j+1 by omega,List.getElem?_eq_getElem h,List.getD_eq_getElem?_getD,Option.getD_some,q5f _ hj]; rfl
theorem jvd {V:Nat->Value} {n:Nat} (h:MkV V n):∀ j,j<n * 33->V j=rowM (mkL V n) j:=fun j hj=>by
 have hi:j / 33<(mkL V n).length:=by rw [qxi]; omega
 obtain ⟨h1,h2⟩:=qal hi
 obtain ⟨h3,h4⟩:=h (j / 33) (by omega)
 rw [jud] at h1 h2
 rcases (show j=j / 33 * 33\/∃ k,k<32/\j=j / 33 * 33+(k+1) by
  by_cases c:j % 33=0
  . exact .inl (by omega)
  . exact .inr ⟨j % 33 - 1,by omega,by omega⟩) with c | ⟨k,hk,c⟩
 . rw [c,h1,h3]
 . rw [c,h2 k hk,h4 k hk]
end
noncomputable section
open Go.Sim
open Go.Proofs
variable {α:Type}
set_option maxRecDepth 1000000
def mkB (X:Nat->BitVec 8) (n:Nat):ByteArray:=⟨((List.range n).map fun j=>UInt8.ofBitVec (X j)).toArray⟩
theorem j9f (X:Nat->BitVec 8):mkB X 32=(dgOf X).1:=rfl
theorem qs9 (x:BitVec 8):(((x.toNat:Nat):Int).toNat).toUInt8=UInt8.ofBitVec x:=by
 apply UInt8.toBitVec_inj.1
 show BitVec.ofNat 8 _=x
 rw [Int.toNat_natCast]
 simp
theorem q4m (P:Program) (w:World):∀ (n blk off:Nat) (X:Nat->BitVec 8) (acc:ByteArray),(∀ j,j<n->w.cell? ⟨blk,off+j,none⟩=some (.int .u8 ((X j).toNat:Int))) ->
  (Extern.Bytes.loadBytes ⟨blk,off,none⟩ n acc).run P w=.ok ⟨acc.data++((List.range n).map fun j=>UInt8.ofBitVec (X j)).toArray⟩ w
 | 0,blk,off,X,acc,h=>by
   simp [Extern.Bytes.loadBytes]
 | n+1,blk,off,X,acc,h=>by
   have h0:=h 0 (by omega)
   rw [Nat.add_zero] at h0
   have ih:=q4m P w n blk (off+1) (fun j=>X (j+1)) (acc.push (UInt8.ofBitVec (X 0))) fun j hj=>by
    rw [show off+1+j=off+(j+1) by omega]; exact h (j+1) (by omega)
   have e:(⟨blk,off,none⟩:Addr).add 1=⟨blk,off+1,none⟩:=rfl
   simp only [Extern.Bytes.loadBytes,Sem.run_bind,run_load,h0]
   show ((Extern.Bytes.loadBytes ((⟨blk,off,none⟩:Addr).add 1) n (acc.push _)).run P w)=_
   rw [qs9,e,ih]
   congr 1
   show ByteArray.mk _=ByteArray.mk _
   congr 1
   rw [List.range_succ_eq_map,List.map_cons,List.map_map,ByteArray.data_push]
   apply Array.toList_inj.1
   simp [Function.comp_def]
def slB1 (H:List SO) (v:SV) (f:(Nat->BitVec 8)->Nat->R α):R α:=v.asSlice (.stuck 7960) fun a l _=>entry H a fun e=>qe2 e a.off.den l.den fun X=>f X l.den
theorem qvy {P:Program} {O:Nat->Prop} {w0 w:World} {β:Val} {H:List SO} (hr:HeapRel0 P O w0 β H w) {v:SV} {x:Value} (hv:v.den β=some x) {f:(Nat->BitVec 8)->Nat->R α} {φ:α->Prop}
  (hf:∀ X n,(Extern.Bytes.bytesOf x).run P w=.ok (mkB X n) w->(f X n).Sat φ):(slB1 H v f).Sat φ:=by
 unfold slB1
 rcases asSlice_cases v with ⟨a,l,c,rfl⟩ | hn
 . rw [den_slice] at hv
   obtain ⟨A,C,hA,hC,_,rfl⟩:=hv
   refine qgb fun e he => ?_
   have key:∀ cl:Cells,e.cells? = some cl->(qmi cl a.off.den l.den fun X=>f X l.den).Sat φ:=by
    intro cl hcl
    obtain ⟨ll,vs,hl,hcr,hcell⟩:=qtb hr he hcl
    obtain ⟨l',hl',rfl⟩:=SA.den_some hA
    rw [hl] at hl'; cases hl'
    refine qbg hcr fun X hle hX=>hf X l.den ?_
    show (Extern.Bytes.loadBytes ⟨ll.blk,ll.off+a.off.den,none⟩ l.den .empty).run P w=_
    rw [q4m P w l.den ll.blk (ll.off+a.off.den) X .empty fun j hj=>by rw [Nat.add_assoc]; exact hcell _ _ (hX j hj)]
    congr 1
    unfold mkB
    congr 1
    simp
   cases e with
   | own c w el=>exact key c rfl
   | row c=>exact key c rfl
   | loop=>trivial
   | deferred=>trivial
   | gone=>trivial
   | obj=>trivial
 . rw [hn]; trivial
def bcS:Summ:=fun args H _=>qbe args fun a b=>slB1 H a fun X n=>slB1 H b fun Y m=>.ok ⟨.int .i64 (.sym (Extern.BytealgCompare.cmp (mkB X n) (mkB Y m))),[],[]⟩
theorem jwd:∃ fn,Tryd.prog.funcs[57]? = some fn/\(fn.name == "runtime.NumGoroutine")=false/\fn.body.isNone=true/\Extern.findNext fn=none/\Extern.find fn=some Extern.BytealgCompare.compare:=⟨_,rfl,by kernel_rfl,by kernel_rfl,by kernel_rfl,by kernel_rfl⟩
theorem bcOK:qob Tryd.prog 57 bcS:=by
 intro glob O w0 β H w base args vs hH hG ha
 refine q5b fun a b hv => ?_
 rw [hv] at ha
 obtain ⟨x,ys,hx,hys,rfl⟩:=denL_cons.1 ha
 obtain ⟨y,zs,hy,hzs,rfl⟩:=denL_cons.1 hys
 cases hzs
 refine qvy hH hx fun X n h1=>qvy hH hy fun Y m h2 => ?_
 intro hfree
 refine ⟨by simp,.inr ?_⟩
 obtain ⟨fn,f1,f2,f3,f4,f5⟩:=jwd
 refine ⟨.int .i64 (Extern.BytealgCompare.cmp (mkB X n) (mkB Y m)),w,β,?_,rfl,Eff.refl _ _ _ _⟩
 rw [run_callFunc_extern f1 f2 f3 f4 f5]
 show ((Extern.BytealgCompare.compare #[x,y]).run Tryd.prog w).andThen _=_
 have e:Extern.BytealgCompare.compare #[x,y]=(do pure (goInt (Extern.BytealgCompare.cmp (← Extern.Bytes.bytesOf x) (← Extern.Bytes.bytesOf y)))):=rfl
 rw [e]
 simp only [Sem.run_bind,h1,Result.andThen,h2]
 rfl
def dgC (d e:Dg):Int:=Extern.BytealgCompare.cmp d.1 e.1
theorem qig {a:ByteArray} {i:Nat} (h:i<a.size):a[i]! = a.data.toList[i]'(by simpa using h):=by
 rw [getElem!_pos a i h]
 rfl
theorem q76 (d e:Dg):(dgC d e = -1/\d.1.data.toList<e.1.data.toList)\/(dgC d e=0/\d=e)\/(dgC d e=1/\e.1.data.toList<d.1.data.toList):=by
 have hd:d.1.data.toList.length=32:=by have:=d.2; simpa using this
 have he:e.1.data.toList.length=32:=by have:=e.2; simpa using this
 have hm:min d.1.size e.1.size=32:=by rw [d.2,e.2]; rfl
 unfold dgC Extern.BytealgCompare.cmp
 rw [hm]
 cases hf:(List.range 32).find? fun i=>d.1[i]! != e.1[i]! with
 | none =>
   right; left
   refine ⟨by simp [d.2,e.2],q80 (List.ext_getElem (by omega) fun i h1 h2 => ?_)⟩
   have:=List.find?_eq_none.1 hf i (List.mem_range.2 (by omega))
   rw [qig (by have:=d.2; omega),qig (by have:=e.2; omega)] at this
   simpa using this
 | some i =>
   obtain ⟨h1,h2,h3⟩:=List.find?_range_eq_some.1 hf
   have hi:=List.mem_range.1 h2
   have h3':∀ j (h:j<32),j<i->d.1.data.toList[j]'(by omega)=e.1.data.toList[j]'(by omega):=fun j h hj=>by
    have:=h3 j hj
    rw [qig (by have:=d.2; omega),qig (by have:=e.2; omega)] at this
    simpa using this
   rw [qig (by have:=d.2; omega),qig (by have:=e.2; omega)] at h1
   show (if d.1[i]! < e.1[i]! then (-1:Int) else 1) = -1/\_\/(if d.1[i]! < e.1[i]! then (-1:Int) else 1)=0/\_\/(if d.1[i]! < e.1[i]! then (-1:Int) else 1)=1/\_
   rw [qig (by have:=d.2; omega),qig (by have:=e.2; omega)]
   by_cases c:d.1.data.toList[i]'(by omega)<e.1.data.toList[i]'(by omega)
   . left
     refine ⟨if_pos c,List.lt_iff_exists.2 (.inr ⟨i,by omega,by omega,fun j hj=>h3' j (by omega) hj,c⟩)⟩
   . right; right
     refine ⟨if_neg c,List.lt_iff_exists.2 (.inr ⟨i,by omega,by omega,fun j hj=>(h3' j (by omega) hj).symm,?_⟩)⟩
     have h1:d.1.data.toList[i]'(by omega)≠e.1.data.toList[i]'(by omega):=by simpa using h1
     rcases UInt8.lt_or_lt_of_ne h1 with k | k
     . exact absurd k c
     . exact k
end
end Go.Proofs.YthkgcljngalafaaDoor.Aes
namespace Go.Sim
noncomputable section
open Go.Proofs Go.Shelf Go.RowKit Go.Lib Go.Sort
theorem qt9 {P:Program} {β:Val} {w:World} {base:Nat} {β':Val} {w':World} (h:Eff P β w base [] [] β' w'):∃ q os',w'=grow (w.drewN q) os':=by
 refine ⟨w'.drawn - w.drawn,w'.heap.extract w.heap.size w'.heap.size,?_⟩
 have hd:=h.drawn
 have hh:w'.heap=w.heap++w'.heap.extract w.heap.size w'.heap.size:=by
  apply Array.ext_getElem?
  intro i
  have hs:=h.size
  by_cases c:i<w.heap.size
  . rw [Array.getElem?_append_left c]
    exact h.frame i c fun n e l hm=>by cases hm
  . rw [Array.getElem?_append_right (by omega),Array.getElem?_extract]
    by_cases c2:i<w'.heap.size
    . rw [if_pos (by omega),show w.heap.size+(i - w.heap.size)=i by omega]
    . rw [Array.getElem?_eq_none (by omega),if_neg (by omega)]
 have h1:=h.os
 have h2:=h.tape
 have h3:=h.output
 cases w'; cases w
 simp only at h1 h2 h3 hd hh ⊢
 subst h1 h2 h3
 unfold grow World.drewN
 simp only [World.mk.injEq,true_and,and_true]
 exact ⟨hh,by omega⟩
section
variable {P:Program} {α:Type} [Inhabited α]
theorem qu9 (hP:ProgOK P) {g:FuncId} {fn:Func} (hf:P.funcs[g]? = some fn) (hb:fn.body.isSome=true) {s:Summ} (hs:qob P g s) (enc:α->List Value) (k:Nat) (cf:α->α->Int) (A:α->SV) (hA:∀ x,(A x).den (fun _=>none)=some (.agg (enc x).toArray))
  (hr:∀ x y,∃ n:SI,s [A x,A y] [] 0=.ok ⟨.int .i64 n,[],[]⟩/\n.den=cf x y) (blk off size:Nat) (w:World):CmpLays P g #[] enc k cf blk off size w:=by
 intro m os dk _ x y
 obtain ⟨n,hn,hc⟩:=hr x y
 have h:=hs (fun _=>none) (fun _=>False) (sortWorldK enc k w blk off m dk os) (fun _=>none) [] (sortWorldK enc k w blk off m dk os) 0 [A x,A y] [.agg (enc x).toArray,.agg (enc y).toArray] (HeapRel.start P (fun _=>False) _).toHeapRel0 (GlobRel.none _) (denL_cons.2 ⟨_,_,hA x,denL_cons.2 ⟨_,_,hA y,rfl,rfl⟩,rfl⟩)
 rw [hn] at h
 obtain ⟨_,h | ⟨v',w',β',h,_⟩⟩:=h (fun i hi=>rfl)
 . refine h.2.mono fun e w' ⟨v',β',he,hv,heff⟩=>⟨?_,qt9 heff⟩
   rw [he,← hc]
   have hv:some (Value.int .i64 n.den)=some v':=hv
   rw [Option.some.inj hv]
 . rw [qbd hP hf hb] at h
   cases h
variable (enc:α->List Value) (k:Nat)
def qof (l:List α) (j:Nat):Value:=(flatK enc k l.toArray)[j]!
theorem q4t {w:World} {blk:Nat} {vs rest:List Value} {el:TypeId} {fr:Nat × Nat} {d d':Array α} {m:Nat} {os:Array Obj} (hb:w.heap[blk]? = some (.cells (vs++rest).toArray el fr)) (hv:vs.length=d.size * k) (hd:d'.size=d.size) :
  (sortWorldK enc k w blk 0 m d' os).heap[blk]? = some (.cells ((flatK enc k d').toList++rest).toArray el fr):=by
 have hlt:blk<w.heap.size:=(Array.getElem?_eq_some_iff.1 hb).1
 show ((putRowK enc k (Sort.ahead w m) blk 0 d').heap++os)[blk]? = _
 have hp:(putRowK enc k (Sort.ahead w m) blk 0 d').heap=w.heap.modify blk (onCells (putCells id 0 (flatK enc k d'))):=rfl
 rw [Array.getElem?_append_left (by rw [hp,Array.size_modify]; exact hlt),hp,Array.getElem?_modify,if_pos rfl,hb]
 show some (Obj.cells (putCells id 0 (flatK enc k d') (vs++rest).toArray) el fr)=_
 congr 2
 apply Array.ext_getElem?
 intro j
 unfold putCells
 have hs:(flatK enc k d').size=vs.length:=by rw [size_flatK,hd,hv]
 rw [Array.getElem?_mapIdx]
 simp only [List.getElem?_toArray]
 by_cases c:j<vs.length
 . rw [List.getElem?_append_left c,List.getElem?_append_left (by simpa [hs] using c),List.getElem?_eq_getElem c,Option.map_some,if_pos ⟨Nat.zero_le _,by omega⟩]
   have hj:j<(flatK enc k d').toList.length:=by simpa [hs] using c
   rw [List.getElem?_eq_getElem hj]
   simp only [id,Nat.sub_zero]
   rw [getElem!_pos _ j (by omega)]
   simp
 . rw [List.getElem?_append_right (by omega),List.getElem?_append_right (by simp [hs]; omega)]
   have e:(flatK enc k d').toList.length=vs.length:=by simpa using hs
   rw [e]
   cases hr:rest[j - vs.length]? with
   | none=>rfl
   | some y=>simp only [Option.map_some]; rw [if_neg (by omega)]
theorem qlm {w:World} {blk b:Nat} {d':Array α} {m:Nat} {os:Array Obj} (hb:b<w.heap.size) (hne:b≠blk):(sortWorldK enc k w blk 0 m d' os).heap[b]? = w.heap[b]? := by
 show ((putRowK enc k (Sort.ahead w m) blk 0 d').heap++os)[b]? = _
 have hp:(putRowK enc k (Sort.ahead w m) blk 0 d').heap=w.heap.modify blk (onCells (putCells id 0 (flatK enc k d'))):=rfl
 rw [Array.getElem?_append_left (by rw [hp,Array.size_modify]; exact hb),hp,Array.getElem?_modify,if_neg (Ne.symm hne)]
theorem q5t {w:World} {blk:Nat} {d':Array α} {m:Nat} {os:Array Obj}:w.heap.size<=(sortWorldK enc k w blk 0 m d' os).heap.size:=by
 show _<=((putRowK enc k (Sort.ahead w m) blk 0 d').heap++os).size
 have hp:(putRowK enc k (Sort.ahead w m) blk 0 d').heap=w.heap.modify blk (onCells (putCells id 0 (flatK enc k d'))):=rfl
 rw [Array.size_append,hp,Array.size_modify]
 exact Nat.le_add_right _ _
theorem qv9 {w:World} {blk:Nat} {vs rest:List Value} {el:TypeId} {lo hi:Nat} {d:Array α} (hb:w.heap[blk]? = some (.cells (vs++rest).toArray el (lo,hi))) (hu:Unfz lo hi (vs++rest).length) (hv:vs=(flatK enc k d).toList):HoldsK enc k w blk 0 d:=by
 intro j hj
 rw [Nat.zero_add]
 have hl:j<vs.length:=by rw [hv]; simpa using hj
 constructor
 . unfold World.cell?
   rw [hb]
   show (vs++rest).toArray[j]? = _
   rw [List.getElem?_toArray,List.getElem?_append_left hl,List.getElem?_eq_getElem hl]
   congr 1
   rw [getElem!_pos _ j hj]
   simp only [hv]
   simp
 . unfold World.frozen?
   rw [hb]
   simp only
   have:=hu.at j (by rw [List.length_append]; omega)
   simp only [Bool.and_eq_false_iff,decide_eq_false_iff_not]
   omega
def srtL (cf:α->α->Int) (D:List α):List α:=D.mergeSort fun x y => !(ltOf cf) y x
theorem qw9 {ρ:Ren} (L:SlLaysF0.n6 P ρ) (hP:ProgOK P) (hs6:∃ fn,P.funcs[ρ.f 6]? = some fn/\fn.body.isSome=true) (aE:∀ w,(isAgg (ρ.t 24)).run P w=.ok true w) (zE:∀ w,(Go.sizeOf (ρ.t 24)).run P w=.ok k w) (hk:∀ x,(enc x).length=k) (h1:∀ x,∀ v∈enc x,v.oneCell'=true) (cf:α->α->Int) (hO:SWO (ltOf cf)) (hT:∀ x y,(ltOf cf) x y=false->(ltOf cf) y x=false->x=y)
  {g:FuncId} {fn:Func} (hf:P.funcs[g]? = some fn) (hb:fn.body.isSome=true) (hcmp:∀ blk size w,CmpLays P g #[] enc k cf blk 0 size w)
  {O:Nat->Prop} {w0 w:World} {β:Val} {H:List SO} {base nm:Nat} {wh:Bool} {el:TypeId} {V:Nat->Value} {D:List α} {c:SC} {l:SN} {vs:List Value} (hH:HeapRel0 P O w0 β H w) (he:H[nm]? = some (.own (.raw V (D.length * k)) wh el)) (hl:l.den=D.length)
  (hV:∀ j,j<D.length * k->V j=qof enc k D j) (hsz:D.length<4611686018427387904) (ha:SV.denL β [.slice ⟨nm,.lit 0⟩ l c,.func (.fn (.func g)) [] []]=some vs) :
  SumSem P H β w base (ρ.f 6) vs ⟨.tuple [],[(nm,.own (.raw (qof enc k (srtL cf D)) (D.length * k)) wh el)],[]⟩:=by
 obtain ⟨x,ys,hx,hys,rfl⟩:=denL_cons.1 ha
 obtain ⟨y,zs,hy,hzs,rfl⟩:=denL_cons.1 hys
 cases hy; cases hzs
 obtain ⟨A,C,hA,hC,hle,rfl⟩:=den_slice.1 hx
 obtain ⟨lo,ws,rest,f1,f2,hβ,hoff,hcr,hh,hu,hw,hi⟩:OwnRel P β w nm (.own (.raw V (D.length * k)) wh el):=(hH.entries nm _ he).toOwn rfl
 obtain ⟨hlen,hcr⟩:ws.length=D.length * k/\∀ (i:Nat) (x:Value),ws[i]? = some x->x=V i:=hcr
 have hA:(β nm).map (fun l=>(⟨l.blk,l.off+0,none⟩:Addr))=some A:=hA
 rw [hβ] at hA
 have hA:(⟨lo.blk,lo.off+0,none⟩:Addr)=A:=Option.some.inj hA
 rw [hoff] at hA
 subst hA
 rw [hl]
 have hws:ws=(flatK enc k D.toArray).toList:=by
  apply List.ext_getElem?
  intro i
  by_cases c:i<ws.length
  . rw [List.getElem?_eq_getElem c,hcr i _ (List.getElem?_eq_getElem c),hV i (by omega)]
    have:i<(flatK enc k D.toArray).size:=by rw [size_flatK]; simpa [hlen] using c
    rw [List.getElem?_eq_getElem (by simpa using this)]
    unfold qof
    rw [getElem!_pos _ i this]
    simp
  . rw [List.getElem?_eq_none (by omega),List.getElem?_eq_none (by simp; omega)]
 have hHd:=qv9 enc k hh hu hws
 have hblk:lo.blk<w.heap.size:=(Array.getElem?_eq_some_iff.1 hh).1
 have hcon:=AnyQ.slices_SortFunc L k aE zE enc hk h1 cf hO g #[] lo.blk 0 C D.toArray w (fun args w=>qbd hP hf hb args w) (hcmp lo.blk D.toArray.size w) hHd hblk (by simpa using hsz)
 refine fun hnew=>⟨fun n e hm => ?_,.inl ⟨hs6,?_⟩⟩
 . simp at hm
   obtain ⟨rfl,rfl⟩:=hm
   exact ⟨_,he,rfl⟩
 refine hcon.mono fun e w' ⟨hret,d',n,os,hp,hso,hw'⟩=>⟨.tuple #[],β,hret,rfl,?_⟩
 have hsd:d'.size=D.toArray.size:=hp.1
 have hd':d'.toList=srtL cf D:=Go.Sort.sorted_unique_holds hO hT D.toArray d' hp hso
 have hsL:(srtL cf D).length=D.length:=by rw [← hd']; simpa using hsd
 have hd'':d'=(srtL cf D).toArray:=by rw [← hd',Array.toArray_toList]
 subst hw'
 have hh':=q4t enc k (m:=n) (os:=os) hh (by rw [hlen]; simp) hsd
 refine ⟨fun n l h=>h,rfl,rfl,rfl,Nat.le_add_right _ _,q5t enc k,fun _ _=>rfl,fun b hb hne=>qlm enc k hb fun e => ?_,fun n e e' h h' => ?_,fun n e hm => ?_,fun i e h=>by simp at h,fun i j l l' _ h=>by simp at h⟩
 . exact hne nm (.own (.raw (qof enc k (srtL cf D)) (D.length * k)) wh el) lo (by simp) hβ e.symm
 . simp at h h'
   rw [h.2,h'.2]
 . simp at hm
   obtain ⟨rfl,rfl⟩:=hm
   refine ⟨lo,_,rest,f1,f2,hβ,hoff,⟨by simp [size_flatK,hsd],fun i x hx => ?_⟩,hh',?_,hw,fun i' hi' => ?_⟩
   . unfold qof
     rw [← hd'']
     have hi:i<(flatK enc k d').size:=by
      have:=(List.getElem?_eq_some_iff.1 hx).1
      simpa using this
     rw [List.getElem?_eq_getElem (by simpa using hi)] at hx
     rw [getElem!_pos _ i hi,← Option.some.inj hx]
     simp
   . rw [List.length_append] at hu ⊢
     simpa [size_flatK,hsd,hlen] using hu
   . have:=hi i' hi'
     rw [List.length_append] at this ⊢
     simpa [size_flatK,hsd,hlen] using this
end
end
end Go.Sim
namespace Go.Proofs
noncomputable section
open Go.Shelf Go.RowKit Go.Lib Go.Sort
def Tryd.sortMk_ren:Go.Shelf.Ren:=⟨fun | 6=>48 | 15=>59 | 14=>58 | 28=>76 | 29=>77 | 20=>68 | 21=>69 | 22=>70 | 23=>71 | 24=>72 | 25=>73 | 26=>74 | 27=>75 | 46=>79 | 47=>80 | 48=>81 | 49=>82 | 50=>83 | 57=>84 | n=>n,fun | 22=>77 | 24=>65 | 25=>69 | 3=>3 | 39=>86 | 0=>0 | 53=>95 | 55=>61 | 4=>4 | 46=>115 | 45=>114 | 50=>119 | 5=>5 | 9=>9 | 66=>124 | 70=>128 | 76=>130 | 77=>131 | n=>n,fun | n=>n⟩
theorem Tryd.sortMk:Go.Proofs.SlLaysF0.n6 Tryd.prog Tryd.sortMk_ren:={
 mixed:=by kernel_rfl
 f6:=⟨Tryd.f48.name,by decide,Tryd.func48.trans (congrArg some (by kernel_rfl))⟩
 f14:=⟨Tryd.f58.name,by decide,Tryd.func58.trans (congrArg some (by kernel_rfl))⟩
 f15:=Tryd.func59.trans (congrArg some (by kernel_rfl))
 f20:=⟨Tryd.f68.name,by decide,Tryd.func68.trans (congrArg some (by kernel_rfl))⟩
 f21:=⟨Tryd.f69.name,by decide,Tryd.func69.trans (congrArg some (by kernel_rfl))⟩
 f22:=⟨Tryd.f70.name,by decide,Tryd.func70.trans (congrArg some (by kernel_rfl))⟩
 f23:=⟨Tryd.f71.name,by decide,Tryd.func71.trans (congrArg some (by kernel_rfl))⟩
 f24:=⟨Tryd.f72.name,by decide,Tryd.func72.trans (congrArg some (by kernel_rfl))⟩
 f25:=⟨Tryd.f73.name,by decide,Tryd.func73.trans (congrArg some (by kernel_rfl))⟩
 f26:=⟨Tryd.f74.name,by decide,Tryd.func74.trans (congrArg some (by kernel_rfl))⟩
 f27:=⟨Tryd.f75.name,by decide,Tryd.func75.trans (congrArg some (by kernel_rfl))⟩
 f28:=Tryd.func76.trans (congrArg some (by kernel_rfl))
 f29:=Tryd.func77.trans (congrArg some (by kernel_rfl))
 f46:=⟨Tryd.f79.name,by decide,Tryd.func79.trans (congrArg some (by kernel_rfl))⟩
 f47:=Tryd.func80.trans (congrArg some (by kernel_rfl))
 f48:=Tryd.func81.trans (congrArg some (by kernel_rfl))
 f49:=⟨Tryd.f82.name,by decide,Tryd.func82.trans (congrArg some (by kernel_rfl))⟩
 f50:=⟨Tryd.f83.name,by decide,Tryd.func83.trans (congrArg some (by kernel_rfl))⟩
 f57:=⟨Tryd.f84.name,by decide,Tryd.func84.trans (congrArg some (by kernel_rfl))⟩
 t0:=Tryd.underlying0
 a0:=Tryd.isAgg0
 z0:=Tryd.sizeOf0
 v0:=Tryd.zeroValue0
 t3:=Tryd.underlying3
 a3:=Tryd.isAgg3
 z3:=Tryd.sizeOf3
 v3:=Tryd.zeroValue3
 t4:=Tryd.underlying4
 a4:=Tryd.isAgg4
 z4:=Tryd.sizeOf4
 v4:=Tryd.zeroValue4
 t5:=Tryd.underlying5
 a5:=Tryd.isAgg5
 z5:=Tryd.sizeOf5
 v5:=Tryd.zeroValue5
 t9:=Tryd.underlying9
 a9:=Tryd.isAgg9
 z9:=Tryd.sizeOf9
 v9:=Tryd.zeroValue9
 t22:=Tryd.underlying77
 a22:=Tryd.isAgg77
 z22:=Tryd.sizeOf77
 v22:=Tryd.zeroValue77
 t25:=Tryd.underlying69
 a25:=Tryd.isAgg69
 z25:=Tryd.sizeOf69
 v25:=Tryd.zeroValue69
 t39:=Tryd.underlying86
 a39:=Tryd.isAgg86
 z39:=Tryd.sizeOf86
 v39:=Tryd.zeroValue86
 t45:=Tryd.underlying114
 a45:=Tryd.isAgg114
 z45:=Tryd.sizeOf114
 v45:=Tryd.zeroValue114
 t46:=Tryd.underlying115
 a46:=Tryd.isAgg115
 z46:=Tryd.sizeOf115
 v46:=Tryd.zeroValue115
 t50:=Tryd.underlying119
 a50:=Tryd.isAgg119
 z50:=Tryd.sizeOf119
 v50:=Tryd.zeroValue119
 t53:=Tryd.underlying95
 a53:=Tryd.isAgg95
 z53:=Tryd.sizeOf95
 v53:=Tryd.zeroValue95
 t55:=Tryd.underlying61
 a55:=Tryd.isAgg61
 z55:=Tryd.sizeOf61
 v55:=Tryd.zeroValue61
 t66:=Tryd.underlying124
 a66:=Tryd.isAgg124
 z66:=Tryd.sizeOf124
 v66:=Tryd.zeroValue124
 t70:=Tryd.underlying128
 a70:=Tryd.isAgg128
 z70:=Tryd.sizeOf128
 v70:=Tryd.zeroValue128
 t76:=Tryd.underlying130
 a76:=Tryd.isAgg130
 z76:=Tryd.sizeOf130
 v76:=Tryd.zeroValue130
 t77:=Tryd.underlying131
 a77:=Tryd.isAgg131
 z77:=Tryd.sizeOf131
 v77:=Tryd.zeroValue131 }
end
end Go.Proofs
namespace Go.Proofs.YthkgcljngalafaaDoor.Aes
noncomputable section
open Go.Sim
open Go.Proofs
open Go.Shelf Go.Sort
variable {α:Type}
set_option maxRecDepth 1000000
def mkCs (m:Mk):List SV:=.int .i64 (.sym m.1)::mapN (fun j=>.int .u8 (.b8 (m.2.at j))) (qba 32 0)
def mkS (m:Mk):SV:=.agg (mkCs m)
theorem q2q (m:Mk) (β:Val):SV.denL β (mkCs m)=some (mkC m):=by
 unfold mkCs mkC
 rw [qla,qcb,← List.range_eq_range']
 refine denL_cons.2 ⟨_,_,rfl,?_,rfl⟩
 generalize List.range 32=l
 induction l with
 | nil=>rfl
 | cons a l ih=>exact denL_cons.2 ⟨_,_,rfl,ih,rfl⟩
theorem jxd (m:Mk) (β:Val):(mkS m).den β=some (keyM m):=by
 show (SV.denL β (mkCs m)).map _=_
 rw [q2q]; rfl
def cfgB:Cfg:=qvh (qjc [(57,bcS)])
theorem q86:CfgOK cfgB:=q8d (all1 bcOK)
section
variable (m n:Mk)
def s1T:Tree:=qka cfgB 4000 49 [mkS m,mkS n] []
def dgX (m:Mk):Nat->BitVec 8:=fun i=>quj (mkCs m) (1+i)
def s1A (q:List Prop):List Prop:=((m.1 != m.1)=false)::((n.1 != n.1)=false)::q
def s1B:List Prop:=repN (33<=33/\(0<1\/33<=0)/\True) 2
theorem s1_lt:outO [] (s1T m n) [false,false,true]=(s1A m n [decide (m.1<n.1)=true],some (.int .i64 (.lit (-1)),[])):=by kernel_rfl
theorem s1_gt:outO [] (s1T m n) [false,false,false,true]=(s1A m n [decide (m.1<n.1)=false,decide (m.1 > n.1)=true],some (.int .i64 (.lit 1),[])):=by kernel_rfl
theorem s1_eq:outO [] (s1T m n) [false,false,false,false]=(s1A m n ((decide (m.1<n.1)=false)::(decide (m.1 > n.1)=false)::s1B),some (.int .i64 (.sym (Extern.BytealgCompare.cmp (mkB (dgX m) 32) (mkB (dgX n) 32))),[])):=by kernel_rfl
end
theorem q93 (v:SV) (l:List SV) (i:Nat):quj (v::l) (i+1)=quj l i:=rfl
theorem qfv (f:Nat->BitVec 8):∀ (n k i:Nat),i<n->quj (mapN (fun j=>SV.int .u8 (.b8 (f j))) (qba n k)) i=f (k+i)
 | 0,_,_,h=>by omega
 | n+1,k,0,_=>rfl
 | n+1,k,i+1,h=>by
   have:=qfv f n (k+1) i (by omega)
   rw [show k+(i+1)=k+1+i by omega,← this]
   rfl
theorem q96 {X Y:Nat->BitVec 8} {n:Nat} (h:∀ j,j<n->X j=Y j):mkB X n=mkB Y n:=by
 unfold mkB
 congr 2
 exact List.map_congr_left fun j hj=>by rw [h j (List.mem_range.1 hj)]
theorem jag (m:Mk) {i:Nat} (h:i<32):dgX m i=m.2.at i:=by
 unfold dgX mkCs
 rw [show 1+i=i+1 by omega,q93,qfv _ _ _ _ h,Nat.zero_add]
theorem q9o (m:Mk):mkB (dgX m) 32=m.2.1:=by
 rw [q96 (Y:=m.2.at) fun j hj=>jag m hj,j9f,q66]
def cfM (m n:Mk):Int:=if m.1<n.1 then -1 else if m.1 > n.1 then 1 else dgC m.2 n.2
theorem cfM_neg {m n:Mk}:cfM m n<0↔mkLt m n:=by
 unfold cfM mkLt
 by_cases h:m.1<n.1
 . rw [if_pos h]; exact ⟨fun _=>.inl h,fun _=>by omega⟩
 . rw [if_neg h]
   by_cases h2:m.1 > n.1
   . rw [if_pos h2]
     constructor
     . intro k; omega
     . rintro (k | ⟨k,_⟩) <;> omega
   . rw [if_neg h2]
     have e:m.1=n.1:=by omega
     rcases q76 m.2 n.2 with ⟨h3,h4⟩ | ⟨h3,h4⟩ | ⟨h3,h4⟩ <;> rw [h3]
     . exact ⟨fun _=>.inr ⟨e,h4⟩,fun _=>by omega⟩
     . constructor
       . intro k; omega
       . rintro (k | ⟨_,k⟩)
         . exact absurd k h
         . rw [h4] at k; exact absurd k (List.lt_irrefl _)
     . constructor
       . intro k; omega
       . rintro (k | ⟨_,k⟩)
         . exact absurd k h
         . exact absurd (List.lt_trans h4 k) (List.lt_irrefl _)
noncomputable instance (p q:Mk):Decidable (mkLt p q):=Classical.propDecidable _
theorem ltMk {p q:Mk}:ltOf cfM p q=decide (mkLt p q):=by
 unfold ltOf
 exact decide_eq_decide.2 cfM_neg
theorem swoMk:SWO (ltOf cfM) where
 irrefl p:=by rw [ltMk]; exact decide_eq_false (qte p)
 trans p q r h h':=by
  rw [ltMk] at *
  exact decide_eq_true (qde (of_decide_eq_true h) (of_decide_eq_true h'))
 ntrans p q r h h':=by
  rw [ltMk] at *
  have h:=of_decide_eq_false h
  have h':=of_decide_eq_false h'
  refine decide_eq_false fun hr => ?_
  rcases qkm p q with k | rfl | k
  . exact h k
  . exact h' hr
  . exact h' (qde k hr)
theorem totMk (p q:Mk) (h:ltOf cfM p q=false) (h':ltOf cfM q p=false):p=q:=by
 rw [ltMk] at *
 rcases qkm p q with k | k | k
 . exact absurd k (of_decide_eq_false h)
 . exact k
 . exact absurd k (of_decide_eq_false h')
def mkV (v:SV):Option Mk:=match v with
 | .agg (.int .i64 t::l)=>optC (unb l) none fun xs=>boolC (Nat.beq (lenN xs) 32) (some (t.den,dgOf (qya xs))) none
 | _=>none
theorem qmm {v:SV} {m:Mk} (h:mkV v=some m):v.Imp (mkS m):=by
 unfold mkV at h
 split at h
 . rename_i t l
   cases hu:unb l with
   | none=>rw [hu] at h; cases h
   | some xs =>
     rw [hu] at h
     have h:boolC (Nat.beq (lenN xs) 32) (some (t.den,dgOf (qya xs))) none=some m:=h
     cases hl:Nat.beq (lenN xs) 32 with
     | false=>rw [hl] at h; cases h
     | true =>
       rw [hl] at h
       cases h
       have hl:=Nat.eq_of_beq_eq_true hl
       rw [qga] at hl
       refine q60 (qpa (q9a rfl) fun γ vs hv => ?_)
       obtain ⟨h1,h2⟩:=qoe hu hv
       have e:SV.denL γ (mapN (fun j=>SV.int .u8 (.b8 ((dgOf (qya xs)).at j))) (qba 32 0))=some ((List.range 32).map fun j=>Value.int .u8 (((dgOf (qya xs)).at j).toNat:Int)):=by
        have:=q2q (0,dgOf (qya xs)) γ
        obtain ⟨_,_,_,h4,h5⟩:=denL_cons.1 this
        cases h5
        exact h4
       refine e.trans (congrArg some ?_)
       refine List.ext_getElem (by simp; omega) fun i g1 g2 => ?_
       have hi:i<32:=by simpa using g1
       have:=h2 i (by omega)
       rw [List.getElem?_eq_getElem g2] at this
       rw [Option.some.inj this]
       simp [qhd _ hi]
 . cases h
def s1S:Summ:=fun args _ _=>qbe args fun a b=>optC (mkV a) (.stuck 7961) fun m=>optC (mkV b) (.stuck 7961) fun n=>.ok ⟨.int .i64 (.sym (cfM m n)),[],[]⟩
theorem s1OK:qob Tryd.prog 49 s1S:=by
 intro glob O w0 β H w base args vs hH hG ha
 refine q5b fun a b hv=>qia fun m hm=>qia fun n hn => ?_
 rw [hv] at ha
 have ha:=qpa (qmm hm) (qpa (qmm hn) qcd) _ _ ha
 show SumSem Tryd.prog H β w base _ vs ⟨.int .i64 (.sym (cfM m n)),[],[]⟩
 have hr:∀ (f:Nat->Nat) (m:Mk),(mkS m).ren f=mkS m:=fun f m=>by kernel_rfl
 have hu:∀ (p:Nat->Bool) (m:Mk),(mkS m).uses p=true:=fun p m=>by kernel_rfl
 have go:∀ {ds ps v},outO [] (s1T m n) ds=(ps,some (.int .i64 v,[]))->(∀ p∈ps,p)->v.den=cfM m n->SumSem Tryd.prog H β w base 49 vs ⟨.int .i64 (.sym (cfM m n)),[],[]⟩:=fun {ds ps v} hrun hp hv=>by
  refine qsd q86 4000 hH ⟨[],[],[mkS m,mkS n]⟩ (by intro g j hg; cases hg) ?_ (Ifc.fitsQ (by simp) (by show ((mkS m).uses _ && ((mkS n).uses _ && true))=true; rw [hu,hu]; rfl) trivial) [] (by simp) (by simp) (qpc hrun hp fun H2 _=>⟨?_,rfl,trivial,trivial⟩)
  . show SV.denL β [(mkS m).ren _,(mkS n).ren _]=_
    rw [hr,hr]; exact ha
  . show SV.Imp (.int .i64 v) _
    exact q9a hv
 have h0:∀ (m:Mk),(m.1 != m.1)=false:=fun m=>by simp
 by_cases c:m.1<n.1
 . exact go (s1_lt m n) (all_cons (h0 m) (all_cons (h0 n) (all_cons (decide_eq_true c) qca))) (by unfold cfM; rw [if_pos c]; rfl)
 . by_cases c2:m.1 > n.1
   . exact go (s1_gt m n) (all_cons (h0 m) (all_cons (h0 n) (all_cons (decide_eq_false c) (all_cons (decide_eq_true c2) qca)))) (by unfold cfM; rw [if_neg c,if_pos c2]; rfl)
   . refine go (s1_eq m n) (all_cons (h0 m) (all_cons (h0 n) (all_cons (decide_eq_false c) (all_cons (decide_eq_false c2) (quc ⟨Nat.le_refl _,.inl (by omega),trivial⟩ 2))))) ?_
     show Extern.BytealgCompare.cmp (mkB (dgX m) 32) (mkB (dgX n) 32)=_
     unfold cfM
     rw [if_neg c,if_neg c2,q9o,q9o]; rfl
theorem jyd (blk size:Nat) (w:World):CmpLays Tryd.prog 49 #[] mkC 33 cfM blk 0 size w :=
 qu9 cfgP0OK.prog (fn:=Tryd.f49) (by kernel_rfl) (by kernel_rfl) s1OK mkC 33 cfM mkS (fun m=>jxd m _) (fun m n=>⟨.sym (cfM m n),by
  have e:∀ m,mkV (mkS m)=some m:=fun m=>by
   have:mkV (mkS m)=some (m.1,dgOf (qya ((List.range 32).map fun j=>m.2.at j))):=by kernel_rfl
   rw [this]
   congr 1
   refine Prod.ext rfl (qqj fun j hj => ?_)
   show (dgOf _).at j=_
   rw [qhd _ hj]
   unfold qya
   simp [hj]
  show (optC (mkV (mkS m)) (R.stuck 7961) fun m'=>optC (mkV (mkS n)) (R.stuck 7961) fun n'=>(R.ok ⟨.int .i64 (.sym (cfM m' n')),[],[]⟩:R SumRes))=_
  rw [e m,e n]; rfl,rfl⟩) blk 0 size w
end
noncomputable section
open Go.Sim
open Go.Proofs
open Go.Shelf Go.Sort
variable {α:Type}
set_option maxRecDepth 1000000
theorem q90 (l:List Mk) {i:Nat} (h:i<l.length) {k:Nat} (hk:k<33):qof mkC 33 l (i * 33+k)=(mkC l[i]).getD k undef:=by
 unfold qof
 rw [get_flatK _ _ _ _ (by simp; omega)]
 rw [show (i * 33+k) / 33=i by omega,show (i * 33+k) % 33=k by omega]
 have e:l.toArray[i]! = l[i]:=by simp [h]
 rw [e]
 have hl:=q70 l[i]
 simp [List.getD_eq_getElem?_getD,hl,hk]
theorem qx9 {V:Nat->Value} {n:Nat} (h:MkV V n):∀ j,j<(mkL V n).length * 33->V j=qof mkC 33 (mkL V n) j:=by
 intro j hj
 rw [qxi] at hj
 have hi:j / 33<(mkL V n).length:=by rw [qxi]; omega
 have e:=q90 (mkL V n) hi (k:=j % 33) (by omega)
 rw [show j / 33 * 33+j % 33=j by omega] at e
 rw [e,jvd h j hj]
 unfold rowM
 rw [List.getElem?_eq_getElem hi]; rfl
theorem qy9 (l:List Mk):∀ j,j<l.length * 33->qof mkC 33 l j=rowM l j:=by
 intro j hj
 have hi:j / 33<l.length:=by omega
 have e:=q90 l hi (k:=j % 33) (by omega)
 rw [show j / 33 * 33+j % 33=j by omega] at e
 rw [e]
 unfold rowM
 rw [List.getElem?_eq_getElem hi]; rfl
def qa4 (v:SV):Option FuncId:=match v with
 | .func (.fn (.func g)) [] []=>some g
 | _=>none
theorem qb4 {v:SV} {g:FuncId} (h:qa4 v=some g):v=.func (.fn (.func g)) [] []:=by
 unfold qa4 at h
 split at h
 . cases h; rfl
 . cases h
def srtM (l:List Mk):List Mk:=srtL cfM l
def smR (nm:Nat) (V:Nat->Value) (N n:Nat) (wh:Bool) (el:TypeId):R SumRes :=
 .need (N=n * 33/\MkV V n/\n<4611686018427387904) (.ok ⟨.tuple [],[(nm,.own (.raw (qof mkC 33 (srtM (mkL V n))) (n * 33)) wh el)],[]⟩)
def smS:Summ:=fun args H _=>qbe args fun v fv=>optC (qa4 fv) (.stuck 7830) fun g=>boolC (Nat.beq g 49) (q7k v (.ok ⟨.tuple [],[],[]⟩) fun a l=>boolC (is0 a.off) (optC (nth H a.nm) (.stuck 7831) fun e=>optC (qpw e) (.stuck 7832) fun r=>smR a.nm r.1.1 r.1.2 l.den r.2.1 r.2.2) (.stuck 7833)) (.stuck 7834)
def cmpF:SV:=.func (.fn (.func 49)) [] []
theorem jbg:outO [] (qka cfgP0 400 48 [.nilSlice,cmpF] []) []=([],some (.tuple [],[])):=by kernel_rfl
theorem smOK:qob Tryd.prog 48 smS:=by
 intro glob O w0 β H w base args vs hH hG ha
 refine q5b fun v fv hv=>qia fun g hg=>qra fun hgg => ?_
 rw [hv,qb4 hg,Nat.eq_of_beq_eq_true hgg] at ha
 refine qyg (fun hn => ?_) fun a l c hs=>qra fun h0=>qia fun e he=>qia fun r hr => ?_
 . rw [hn] at ha
   exact qsd cfgP0OK 400 hH ⟨[],[],[.nilSlice,cmpF]⟩ (by intro g j hg; cases hg) ha (qus rfl).q [] (by simp) (by simp) (qpc jbg qca fun H2 _=>⟨.refl _,rfl,trivial,trivial⟩)
 . rintro ⟨hN,hV,hz⟩
   obtain ⟨nm,off⟩:=a
   obtain rfl:=q1q h0
   have he:=q83 hr▸he
   rw [qda] at he
   rw [hs] at ha
   have hl:=qxi r.1.1 l.den
   have:=qw9 mkC 33 Tryd.sortMk cfgP0OK.prog ⟨_,Tryd.func48,by kernel_rfl⟩ Tryd.isAgg65 Tryd.sizeOf65 q70 (fun p v hv=>by simp [mkC] at hv; rcases hv with rfl | ⟨j,_,rfl⟩ <;> rfl) cfM swoMk totMk (fn:=Tryd.f49) (by kernel_rfl) (by kernel_rfl) jyd (base:=base) (nm:=nm) (wh:=r.2.1) (el:=r.2.2) (V:=r.1.1) (D:=mkL r.1.1 l.den) (c:=c) (l:=l) hH (by rw [hl,← hN]; exact he) hl.symm (qx9 hV) (by rw [hl]; exact hz) ha
   rw [hl] at this
   exact this
end
noncomputable section
open Go.Sim
open Go.Proofs
variable {α:Type}
set_option maxRecDepth 1000000
theorem isKey_iff {K:Value} {e:MapEntry}:q0b K e=true↔e.key=K:=by
 unfold q0b
 exact @decide_eq_true_iff _ (Classical.propDecidable _)
def mkE (e:MapEntry):Mk:=mkOf e.key
def insM (m:Mk):List Mk->List Mk
 | []=>[m]
 | a::l=>if mkLt m a then m::a::l else a::insM m l
theorem qcf (m:Mk):∀ l,(insM m l).Perm (m::l)
 | []=>.refl _
 | a::l=>by
   unfold insM
   split
   . exact .refl _
   . exact ((qcf m l).cons a).trans (.swap m a l)
theorem qa1 {m:Mk}:∀ {l:List Mk},l.Pairwise mkLt->m ∉ l->(insM m l).Pairwise mkLt
 | [],_,_=>List.pairwise_singleton _ _
 | a::l,h,hn=>by
   obtain ⟨h1,h2⟩:=List.pairwise_cons.1 h
   unfold insM
   split
   . rename_i hc
     refine List.pairwise_cons.2 ⟨fun b hb => ?_,h⟩
     rcases List.mem_cons.1 hb with rfl | hb
     . exact hc
     . exact qde hc (h1 b hb)
   . rename_i hc
     refine List.pairwise_cons.2 ⟨fun b hb => ?_,qa1 h2 fun hm=>hn (List.mem_cons_of_mem _ hm)⟩
     rcases List.mem_cons.1 ((qcf m l).mem_iff.1 hb) with rfl | hb
     . rcases qkm b a with k | k | k
       . exact absurd k hc
       . exact absurd (k▸List.mem_cons_self) hn
       . exact k
     . exact h1 b hb
structure MarkOK (es:List MapEntry) (c:Nat) (l:List Mk):Prop where
 ok:MapOK es c
 ent:∀ e∈es,e.key=keyM (mkE e)/\e.val=.agg #[]
 so:l.Pairwise mkLt
 perm:l.Perm (es.map mkE)
theorem q6t {l:List Mk} (h:l.Pairwise mkLt):l.Nodup:=List.Pairwise.imp (fun {a b} hab e=>by subst e; exact qte a hab) h
section
variable {es:List MapEntry} {c:Nat} {l:List Mk}
theorem MarkOK.len (h:MarkOK es c l):l.length=es.length:=by rw [h.perm.length_eq,List.length_map]
theorem MarkOK.has (h:MarkOK es c l) {m:Mk}:hasK es (keyM m)=true↔m∈l:=by
 unfold hasK
 rw [List.any_eq_true,h.perm.mem_iff,List.mem_map]
 constructor
 . rintro ⟨e,he,hk⟩
   refine ⟨e,he,quy ?_⟩
   rw [← (h.ent e he).1]; exact isKey_iff.1 hk
 . rintro ⟨e,he,rfl⟩
   exact ⟨e,he,isKey_iff.2 (h.ent e he).1⟩
theorem MarkOK.hasB (h:MarkOK es c l) (m:Mk):hasK es (keyM m)=cB (m∈l):=by
 rw [Bool.eq_iff_iff,h.has,cBi]
theorem MarkOK.sub (h:MarkOK es c l) {es':List MapEntry} {l':List Mk} (hs:es'.Sublist es) (hl:l'.Sublist l) (hm:∀ e∈es,mkE e∈l'↔e∈es'):MarkOK es' c l':=by
 refine ⟨⟨h.ok.nd.sublist (hs.map _),fun e he=>h.ok.lt e (hs.subset he)⟩,fun e he=>h.ent e (hs.subset he),h.so.sublist hl,?_⟩
 refine qim ((q6t h.so).sublist hl) ((h.perm.nodup_iff.1 (q6t h.so)).sublist (hs.map _)) fun x => ?_
 rw [List.mem_map]
 constructor
 . intro hx
   obtain ⟨e,he,rfl⟩:=List.mem_map.1 (h.perm.mem_iff.1 (hl.subset hx))
   exact ⟨e,(hm e he).1 hx,rfl⟩
 . rintro ⟨e,he,rfl⟩
   exact (hm e (hs.subset he)).2 he
theorem MarkOK.filter (h:MarkOK es c l) (p:Mk->Bool):MarkOK (es.filter fun e=>p (mkE e)) c (l.filter p):=by
 refine h.sub List.filter_sublist List.filter_sublist fun e he => ?_
 rw [List.mem_filter,List.mem_filter]
 have:mkE e∈l:=h.perm.mem_iff.2 (List.mem_map.2 ⟨e,he,rfl⟩)
 exact ⟨fun h=>⟨he,h.2⟩,fun h=>⟨this,h.2⟩⟩
theorem MarkOK.ins (h:MarkOK es c l) {m:Mk} (hn:m ∉ l):MarkOK (insK es c (keyM m) (.agg #[])) (c+1) (insM m l):=by
 refine ⟨⟨?_,fun e he => ?_⟩,fun e he => ?_,qa1 h.so hn,?_⟩
 . unfold insK
   rw [List.map_append,List.nodup_append]
   refine ⟨h.ok.nd,by simp,fun a ha b hb => ?_⟩
   obtain ⟨e,he,rfl⟩:=List.mem_map.1 ha
   have hb:b=c:=by simpa using hb
   have:=h.ok.lt e he
   omega
 . rcases List.mem_append.1 he with he | he
   . have:=h.ok.lt e he; omega
   . obtain rfl:=List.mem_singleton.1 he
     exact Nat.lt_succ_self c
 . rcases List.mem_append.1 he with he | he
   . exact h.ent e he
   . obtain rfl:=List.mem_singleton.1 he
     exact ⟨by show keyM m=keyM (mkOf (keyM m)); rw [qrj],rfl⟩
 . refine (qcf m l).trans ?_
   unfold insK
   rw [List.map_append]
   refine (List.Perm.cons m h.perm).trans ?_
   have:[⟨keyM m,.agg #[],c⟩].map mkE=[m]:=by show [mkOf (keyM m)]=_; rw [qrj]
   rw [this]
   exact (List.perm_append_singleton m (es.map mkE)).symm
theorem MarkOK.nil (c:Nat):MarkOK [] c []:=⟨⟨List.nodup_nil,fun _ h=>(by cases h)⟩,fun _ h=>(by cases h),List.Pairwise.nil,List.Perm.refl _⟩
theorem MarkOK.srt (h:MarkOK es c l) {K:List Mk} (hp:K.Perm (es.map mkE)):srtM K=l:=by
 have h1:(srtM K).Perm l:=((List.mergeSort_perm K _).trans hp).trans h.perm.symm
 refine List.Perm.eq_of_pairwise (le:=fun a b=>¬ mkLt b a) (fun a b _ _ h1 h2 => ?_) ?_ ?_ h1
 . rcases qkm a b with k | k | k
   . exact absurd k h2
   . exact k
   . exact absurd k h1
 . have hs:(srtM K).Pairwise fun a b=>(!(ltOf cfM) b a)=true:=List.pairwise_mergeSort (fun a b c h1 h2=>by
     have h1:(ltOf cfM) b a=false:=by simpa using h1
     have h2:(ltOf cfM) c b=false:=by simpa using h2
     simp [swoMk.ntrans _ _ _ h2 h1]) (fun a b=>by
     rw [ltMk,ltMk]
     by_cases k:mkLt b a
     . have:¬ mkLt a b:=fun k2=>qte _ (qde k k2)
       simp [this]
     . simp [k]) K
   refine List.Pairwise.imp (fun {a b} hab k => ?_) hs
   rw [ltMk] at hab
   simp [k] at hab
 . exact List.Pairwise.imp (fun {a b} hab k=>qte _ (qde hab k)) h.so
end
def q1b (p:Mk->Bool) (es:List MapEntry) (seen:List Nat):List MapEntry:=es.filter fun e => !seen.contains e.born || p (mkE e)
theorem qz9 (p:Mk->Bool) (es:List MapEntry):q1b p es []=es:=by
 unfold q1b
 rw [List.filter_eq_self]
 intro e _; rfl
theorem qdi {p:Mk->Bool} {es:List MapEntry} {seen:List Nat}:qoa (q1b p es seen) seen=qoa es seen:=by
 unfold qoa q1b
 rw [List.filter_filter]
 congr 1
 funext e
 cases seen.contains e.born <;> rfl
theorem q09 {p:Mk->Bool} {es:List MapEntry} {seen:List Nat} (h:(qoa es seen).isEmpty=true):q1b p es seen=es.filter fun e=>p (mkE e):=by
 unfold q1b
 refine List.filter_congr fun e he => ?_
 have:=qev h e he
 rw [List.contains_iff_mem.2 this]; rfl
theorem qgv {β:Type} {f:MapEntry->β}:∀ {l:List MapEntry},(l.map f).Nodup->∀ {a b},a∈l->b∈l->f a=f b->a=b
 | [],_,_,_,h,_,_=>by cases h
 | x::l,hn,a,b,ha,hb,he=>by
   rw [List.map_cons,List.nodup_cons] at hn
   rcases List.mem_cons.1 ha with h1 | h1
   . rcases List.mem_cons.1 hb with h2 | h2
     . rw [h1,h2]
     . exact absurd (List.mem_map.2 ⟨b,h2,by rw [← he,h1]⟩) hn.1
   . rcases List.mem_cons.1 hb with h2 | h2
     . exact absurd (List.mem_map.2 ⟨a,h1,by rw [he,h2]⟩) hn.1
     . exact qgv hn.2 h1 h2 he
theorem qbo {β:Type} {f:MapEntry->β}:∀ {l:List MapEntry},(l.map f).Nodup->l.Nodup
 | [],_=>List.nodup_nil
 | x::l,hn=>by
   rw [List.map_cons,List.nodup_cons] at hn
   exact List.nodup_cons.2 ⟨fun h=>hn.1 (List.mem_map.2 ⟨x,h,rfl⟩),qbo hn.2⟩
theorem qco {seen:List Nat} {b x:Nat}:(app seen [b]).contains x=(seen.contains x || x == b):=by
 rw [qza,List.contains_eq_any_beq,List.contains_eq_any_beq,List.any_append]
 simp
theorem q19 {p:Mk->Bool} {es:List MapEntry} {seen:List Nat} (hn:(es.map fun e=>e.born).Nodup) {e:MapEntry} (he:e∈es) (hp:p (mkE e)=true):q1b p es (app seen [e.born])=q1b p es seen:=by
 unfold q1b
 refine List.filter_congr fun x hx => ?_
 rw [qco]
 by_cases c:x.born=e.born
 . rw [qhm hn hx he c,hp]; simp
 . have:(x.born == e.born)=false:=by simpa using c
   rw [this,Bool.or_false]
theorem jzd {p:Mk->Bool} {es:List MapEntry} {seen:List Nat} {c:Nat} {l:List Mk} (h:MarkOK es c l) {e:MapEntry} (he:e∈qoa es seen) (hp:p (mkE e)=false):delK (q1b p es seen) (keyM (mkE e))=q1b p es (app seen [e.born]):=by
 obtain ⟨h1,h2⟩:=left_mem.1 he
 have hm:(es.map mkE).Nodup:=h.perm.nodup_iff.1 (q6t h.so)
 have hi:∀ x∈es,q0b (keyM (mkE e)) x=true↔x=e:=fun x hx=>by
  rw [isKey_iff,(h.ent x hx).1]
  refine ⟨fun k => ?_,fun k=>by rw [k]⟩
  have k:=quy k
  exact qgv hm hx h1 k
 unfold delK q1b
 rw [show (es.filter fun x => !seen.contains x.born || p (mkE x)).eraseP (q0b (keyM (mkE e)))=(es.filter fun x => !seen.contains x.born || p (mkE x)).filter fun x => !q0b (keyM (mkE e)) x from ?_,List.filter_filter]
 . refine List.filter_congr fun x hx => ?_
   rw [qco]
   by_cases c:x=e
   . subst c
     rw [(hi x hx).2 rfl,hp]
     simp
   . have h3:q0b (keyM (mkE e)) x=false:=by
      cases hk:q0b (keyM (mkE e)) x with
      | false=>rfl
      | true=>exact absurd ((hi x hx).1 hk) c
     have h4:(x.born == e.born)=false:=by
      have:x.born≠e.born:=fun k=>c (qhm h.ok.nd hx h1 k)
      simpa using this
     rw [h3,h4,Bool.or_false]; simp
 . have hs:(es.filter fun x => !seen.contains x.born || p (mkE x)).Sublist es:=List.filter_sublist
   have hnd:es.Nodup:=qbo hm
   generalize hL:(es.filter fun x => !seen.contains x.born || p (mkE x))=L at hs
   have hu:∀ x∈L,∀ y∈L,q0b (keyM (mkE e)) x=true->q0b (keyM (mkE e)) y=true->x=y:=fun x hx y hy k1 k2=>by rw [(hi x (hs.subset hx)).1 k1,(hi y (hs.subset hy)).1 k2]
   have hnL:L.Nodup:=hnd.sublist hs
   clear hL hs
   induction L with
   | nil=>rfl
   | cons a L ih =>
     rw [List.nodup_cons] at hnL
     cases hk:q0b (keyM (mkE e)) a with
     | true =>
       rw [List.eraseP_cons_of_pos hk,List.filter_cons_of_neg (by rw [hk]; decide)]
       symm
       rw [List.filter_eq_self]
       intro x hx
       cases hk2:q0b (keyM (mkE e)) x with
       | false=>rfl
       | true=>exact absurd (hu a (by simp) x (by simp [hx]) hk hk2▸hx) hnL.1
     | false =>
       rw [List.eraseP_cons_of_neg (by rw [hk]; decide),List.filter_cons_of_pos (by rw [hk]; rfl),ih (fun x hx y hy=>hu x (by simp [hx]) y (by simp [hy])) hnL.2]
end
noncomputable section
open Go.Sim
open Go.Proofs
variable {α:Type}
set_option maxRecDepth 1000000
def kMk:MSh:=⟨true,.i .i64::mapN (fun _=>SK.i .u8) (qba 32 0)⟩
def uMk:MSh:=⟨true,[]⟩
def chC (m:Nat) (sk lm cl fe:Int):List SV:=[.int .i64 (.sym sk),.int .i64 (.sym lm),.int .i64 (.sym cl),.int .i64 (.sym fe),.map m]
def chO (m:Nat) (sk lm cl fe:Int):SO:=.own (.lst (chC m sk lm cl fe)) true 68
def keyX (v:Value):Value:=.agg (.int .i64 (vNum (qtd v 0))::mapN (fun j=>.int .u8 (((BitVec.ofInt 8 (vNum (qtd v (j+1)))).toNat:Nat):Int)) (qba 32 0)).toArray
section
variable (es:List MapEntry) (c:Nat) (seen:List Nat) (sk lm cl fe now:Int) (J:Junk) (z:Nat->Nat->Nat)
def usT (st:Option (Nat × Nat)):Tree:=qka (cfgP0.at st) 20000 37 [.ptr ⟨0,.lit 0⟩,.int .i64 (.sym now)] [chO 1 sk lm cl fe,.obj (.amap kMk uMk es c)]
def usS:SS:=qmd (usT es c sk lm cl fe 0 (some (1,0))) [false]
def usC:Cut:=⟨j8f (usS es c sk lm cl fe).frames [[0,18,19]],[.ent (chO 1 sk lm cl fe),.ent (.obj (.amap kMk uMk es c)),.ent (.obj (.iter (some 1) c seen c))]⟩
def us1 (st:Option (Nat × Nat)):Tree:=sim1 (cfgP0.at st) 20000 ((usC es c seen sk lm cl fe).fill J)
def nxB (z:Nat):Nat:=(qid (qoa es seen) z).born
def nxK (b:Nat):Value:=(getB es (qwe (app seen [b]))).key
def nxG:Prop:=¬ qi2 es seen c/\∀ e∈es,e.born<c
def nxE (b:Nat):Prop:=c=c/\app seen [b]≠[]/\∃ e∈es,e.born=qwe (app seen [b])
def usQ (b:Nat):List Prop:=[nxG es c seen,(qoa es seen).isEmpty=false,nxE es c seen b,qsa (vNum (qtd (nxK es seen b) 0)+sk)]
def n3:List Nat:=[0,1,2]
theorem us_i1:outL [] (usC es c [] sk lm now fe) n3 (usT es c sk lm cl fe now (some (1,0))) [true] z=([decide (now > cl)=true],some (.inr (q2a n3 3 (usC es c [] sk lm now fe)))):=by kernel_rfl
theorem us_i0:outL [] (usC es c [] sk lm cl fe) n3 (usT es c sk lm cl fe now (some (1,0))) [false] z=([decide (now > cl)=false],some (.inr (q2a n3 3 (usC es c [] sk lm cl fe)))):=by kernel_rfl
theorem jcg:outL [] (usC es c [] sk lm cl fe) n3 (us1 es c seen sk lm cl fe J (some (1,0))) [false,true] z=(app (usQ es c seen sk (nxB es seen (z 0 0))) [decide (vNum (qtd (nxK es seen (nxB es seen (z 0 0))) 0)+sk<cl)=true],some (.inr (q2a n3 4 (usC (delK es (keyX (nxK es seen (nxB es seen (z 0 0))))) c (app seen [nxB es seen (z 0 0)]) sk lm cl fe)))):=by kernel_rfl
theorem j0d:outL [] (usC es c [] sk lm cl fe) n3 (us1 es c seen sk lm cl fe J (some (1,0))) [false,false] z=(app (usQ es c seen sk (nxB es seen (z 0 0))) [decide (vNum (qtd (nxK es seen (nxB es seen (z 0 0))) 0)+sk<cl)=false],some (.inr (q2a n3 4 (usC es c (app seen [nxB es seen (z 0 0)]) sk lm cl fe)))):=by kernel_rfl
theorem jdg:outL [0,1] (usC es c [] sk lm cl fe) n3 (us1 es c seen sk lm cl fe J none) [true] z=([nxG es c seen,(qoa es seen).isEmpty=true],some (.inl (.tuple [],[some (chO 1 sk lm cl fe),some (.obj (.amap kMk uMk es c))]))):=by kernel_rfl
theorem us_n (es0:List MapEntry) (s:List Nat) (cl':Int):boolC (q0a 2 n3 (usC es0 c s sk lm cl' fe) (usC es c seen sk lm cl fe)) (allN qva (usC es c seen sk lm cl fe).heap) false=true:=by kernel_rfl
end
end
noncomputable section
open Go.Sim
open Go.Proofs
variable {α:Type}
set_option maxRecDepth 1000000
def u8K (k:SK):Bool:=match k with
 | .i .u8=>true
 | _=>false
def qqw (k:MSh):Bool:=match k with
 | ⟨true,.i .i64::l⟩=>boolC (Nat.beq (lenN l) 32) (allN u8K l) false
 | _=>false
theorem q3s {k:MSh} (h:qqw k=true):k=kMk:=by
 unfold qqw at h
 split at h
 . rename_i l
   cases h1:Nat.beq (lenN l) 32 with
   | false=>rw [h1] at h; cases h
   | true =>
     rw [h1] at h
     have h:allN u8K l=true:=h
     have hl:=Nat.eq_of_beq_eq_true h1
     rw [qga] at hl
     have:l=List.replicate 32 (SK.i .u8):=List.eq_replicate_iff.2 ⟨hl,fun x hb=>by
      have:=allN_iff.1 h x hb
      unfold u8K at this
      split at this
      . rfl
      . cases this⟩
     rw [this]; rfl
 . cases h
def qrw (k:MSh):Bool:=match k with
 | ⟨true,[]⟩=>true
 | _=>false
theorem q4s {k:MSh} (h:qrw k=true):k=uMk:=by
 unfold qrw at h
 split at h
 . rfl
 . cases h
structure ChD where
 nm:Nat
 mm:Nat
 sk:SI
 lm:SI
 cl:SI
 fe:SI
 es:List MapEntry
 c:Nat
def chL (e:SO):Option (SI × SI × SI × SI × Nat):=match e with
 | .own (.lst [.int .i64 a,.int .i64 b,.int .i64 c,.int .i64 d,.map m]) true t=>boolC (Nat.beq t 68) (some (a,b,c,d,m)) none
 | _=>none
theorem q29 {e:SO} {r:SI × SI × SI × SI × Nat} (h:chL e=some r):e=.own (.lst [.int .i64 r.1,.int .i64 r.2.1,.int .i64 r.2.2.1,.int .i64 r.2.2.2.1,.map r.2.2.2.2]) true 68:=by
 unfold chL at h
 split at h
 . rename_i t
   cases ht:Nat.beq t 68 with
   | false=>rw [ht] at h; cases h
   | true=>rw [ht] at h; cases h; rw [Nat.eq_of_beq_eq_true ht]
 . cases h
def chV (H:List SO) (p:SV) (f:ChD->R α):R α:=optC (q8o p) (.stuck 7970) fun m=>optC (nth H m) (.stuck 7971) fun e=>optC (chL e) (.stuck 7972) fun r=>optC (nth H r.2.2.2.2) (.stuck 7973) fun e=>optC (q2s e) (.stuck 7974) fun q =>
 boolC (qqw q.1.1) (boolC (qrw q.1.2) (boolC (Nat.beq m r.2.2.2.2) (.stuck 7977) (f ⟨m,r.2.2.2.2,r.1,r.2.1,r.2.2.1,r.2.2.2.1,q.2.1,q.2.2⟩)) (.stuck 7976)) (.stuck 7975)
structure ChIn (H:List SO) (p:SV) (d:ChD):Prop where
 ptr:p=.ptr ⟨d.nm,.lit 0⟩
 cell:H[d.nm]? = some (.own (.lst [.int .i64 d.sk,.int .i64 d.lm,.int .i64 d.cl,.int .i64 d.fe,.map d.mm]) true 68)
 map:H[d.mm]? = some (.obj (.amap kMk uMk d.es d.c))
 ne:d.nm≠d.mm
theorem qap {H:List SO} {p:SV} {f:ChD->R α} {φ:α->Prop} (h:∀ d,ChIn H p d->(f d).Sat φ):(chV H p f).Sat φ:=by
 refine qia fun m hm=>qia fun e he=>qia fun r hr=>qia fun e2 he2=>qia fun q hq=>qra fun h1=>qra fun h2 => ?_
 cases hn:Nat.beq m r.2.2.2.2 with
 | true=>exact trivial
 | false =>
   rw [qda] at he he2
   refine h _ ⟨qwi hm,by rw [he,q29 hr],by rw [he2,q3p hq,q3s h1,q4s h2],fun e => ?_⟩
   have e:m=r.2.2.2.2:=e
   rw [e,Nat.beq_refl] at hn; cases hn
def chE (d:ChD):List SO:=[chO 1 d.sk.den d.lm.den d.cl.den d.fe.den,.obj (.amap kMk uMk d.es d.c)]
theorem q39 (d:ChD) {f:Nat->Nat} (h:f 1=d.mm):TakenQ f (chO 1 d.sk.den d.lm.den d.cl.den d.fe.den) (.own (.lst [.int .i64 d.sk,.int .i64 d.lm,.int .i64 d.cl,.int .i64 d.fe,.map d.mm]) true 68):=by
 refine ⟨_,rfl,fun β vs hv => ?_⟩
 have:SV.renL f (chC 1 d.sk.den d.lm.den d.cl.den d.fe.den)=chC d.mm d.sk.den d.lm.den d.cl.den d.fe.den:=by
  show [_,_,_,_,SV.map (f 1)]=_
  rw [h]; rfl
 show SV.denL β (SV.renL f _)=some vs
 rw [this]
 exact qpa (q9a rfl) (qpa (q9a rfl) (qpa (q9a rfl) (qpa (q9a rfl) (qpa (.refl _) qcd)))) _ _ hv
def chI (d:ChD) (ar:List SV):Ifc:=⟨[d.nm,d.mm],chE d,.ptr ⟨0,.lit 0⟩::ar⟩
theorem qwy {H:List SO} {p:SV} {d:ChD} (h:ChIn H p d) {ar:List SV} (hu:SV.usesL (chI d ar).known ar=true):(chI d ar).FitsQ H :=
 Ifc.fitsQ (by show [d.nm,d.mm].Nodup; simpa using h.ne) (by show (true && SV.usesL (chI d ar).known ar)=true; rw [hu]; rfl) ⟨⟨⟨_,h.cell,q39 d rfl⟩,rfl⟩,⟨⟨_,h.map,_,rfl,fun _ _ h=>h⟩,rfl⟩,trivial⟩
def qsw (nm mm:Nat) (sk lm cl fe:Int) (es:List MapEntry) (c:Nat):List (Nat × SO):=[(nm,chO mm sk lm cl fe),(mm,.obj (.amap kMk uMk es c))]
theorem qb1 {d:ChD} {ar:List SV} {base:Nat} {keep:List Nat} {H2:List SO} {sk lm cl fe:Int} {es:List MapEntry} {c:Nat} (h0:H2[0]? = some (chO 1 sk lm cl fe)) (h1:H2[1]? = some (.obj (.amap kMk uMk es c))) :
  SetsQ (chI d ar).big ((chI d ar).seen keep) ((chI d ar).out base keep) H2 (q7c (chI d ar).ents 0) (qsw d.nm d.mm sk lm cl fe es c) :=
 ⟨⟨rfl,.inl ⟨_,_,_,_,h0,rfl,.refl _,rfl⟩⟩,⟨rfl,.inr ⟨_,_,h1,rfl,fun _ _ h=>h,rfl⟩⟩,trivial⟩
theorem qc1 (v:Value):keyX v=keyM (mkOf v):=by
 unfold keyX keyM
 congr 2
def clk (now cl:Int):Int:=if now > cl then now else cl
def yng (sk cl:Int) (m:Mk):Bool := !decide (m.1+sk<cl)
section
variable {es:List MapEntry} {c:Nat} {l:List Mk} (sk lm cl fe now:Int)
def usK (seen:List Nat):Cut:=usC (q1b (yng sk (clk now cl)) es seen) c seen sk lm (clk now cl) fe
def usD (es:List MapEntry) (c:Nat) (v:SV) (H:List SO):Prop:=v=.tuple []/\H[0]? = some (chO 1 sk lm (clk now cl) fe)/\H[1]? = some (.obj (.amap kMk uMk (es.filter fun e=>yng sk (clk now cl) (mkE e)) c))
theorem j1d (h:MarkOK es c l) (hi:∀ m∈l,qsa (m.1+sk)):Runs cfgP0 37 [.ptr ⟨0,.lit 0⟩,.int .i64 (.sym now)] [chO 1 sk lm cl fe,.obj (.amap kMk uMk es c)] (usD sk lm cl fe now es c):=by
 have hm:=h.ok
 have hG:∀ seen,nxG (q1b (yng sk (clk now cl)) es seen) c seen:=fun seen=>by
  have hs:(q1b (yng sk (clk now cl)) es seen).Sublist es:=List.filter_sublist
  exact ⟨qty (c:=c) ⟨hm.nd.sublist (hs.map _),fun e he=>hm.lt e (hs.subset he)⟩,fun e he=>hm.lt e (hs.subset he)⟩
 refine qmf cfgP0OK (usK (es:=es) (c:=c) sk lm cl fe now) (fun seen=>VisOK es seen) (fun seen=>(qoa es seen).length) (fun g nm hg=>by cases hg) ?_ fun seen ha J => ?_
 . have e0:usK (es:=es) (c:=c) sk lm cl fe now []=usC es c [] sk lm (clk now cl) fe:=by unfold usK; rw [qz9]
   by_cases hc:now > cl
   . have ec:clk now cl=now:=if_pos hc
     refine qzq (N:=3) (ds:=[true]) (M:=usC es c [] sk lm now fe) (names:=n3) (some (1,0)) 20000 [] (q3t es) (fun z => ?_) ?_ (all_cons (decide_eq_true hc) qca)
     . rw [e0,ec]; exact us_i1 es c sk lm cl fe now z
     . rw [e0,ec]; exact us_n es c [] sk lm now fe es [] now
   . have ec:clk now cl=cl:=if_neg hc
     refine qzq (N:=3) (ds:=[false]) (M:=usC es c [] sk lm cl fe) (names:=n3) (some (1,0)) 20000 [] (q3t es) (fun z => ?_) ?_ (all_cons (decide_eq_false hc) qca)
     . rw [e0,ec]; exact us_i0 es c sk lm cl fe now z
     . rw [e0,ec]; exact us_n es c [] sk lm cl fe es [] cl
 show q6d cfgP0 _ (usK (es:=es) (c:=c) sk lm cl fe now) _ _ ((usC (q1b (yng sk (clk now cl)) es seen) c seen sk lm (clk now cl) fe).fill J)
 generalize hcl:clk now cl=k at *
 have hnd:((q1b (yng sk k) es seen).map fun e=>e.born).Nodup:=hm.nd.sublist (List.filter_sublist.map _)
 cases hl:(qoa es seen).isEmpty with
 | true =>
   refine qdd (js:=[0,1]) (M:=usC (q1b (yng sk k) es seen) c [] sk lm k fe) (names:=n3) none 20000 (fun z=>jdg _ c seen sk lm k fe J z) (all_cons (hG seen) (all_cons (by rw [qdi]; exact hl) qca)) fun H hH => ?_
   obtain ⟨h0,h1⟩:=List.cons.inj (show [H[0]?,H[1]?]=[some (chO 1 sk lm k fe),some (.obj (.amap kMk uMk (q1b (yng sk k) es seen) c))] from hH)
   have h1:=(List.cons.inj h1).1
   rw [q09 hl] at h1
   subst hcl
   exact ⟨rfl,h0,h1⟩
 | false =>
   have hp:∀ z,qid (qoa es seen) z∈qoa es seen:=fun z=>qsy hl z
   have hgB:∀ {e:MapEntry},e∈qoa es seen->nxK (q1b (yng sk k) es seen) seen e.born=e.key:=fun {e} he=>by
    unfold nxK
    rw [q8j,q7o hnd]
    have he:e∈qoa (q1b (yng sk k) es seen) seen:=by rw [qdi]; exact he
    exact (left_mem.1 he).1
   have hB:∀ z,nxB (q1b (yng sk k) es seen) seen z=(qid (qoa es seen) z).born:=fun z=>by unfold nxB; rw [qdi]
   have hQ:∀ {e:MapEntry},e∈qoa es seen->∀ p∈usQ (q1b (yng sk k) es seen) c seen sk e.born,p:=fun {e} he=>by
    refine all_cons (hG seen) (all_cons (by rw [qdi]; exact hl) (all_cons ⟨rfl,by rw [qza]; simp,e,?_,(q8j _ _).symm⟩ (all_cons ?_ qca)))
    . have he:e∈qoa (q1b (yng sk k) es seen) seen:=by rw [qdi]; exact he
      exact (left_mem.1 he).1
    . rw [hgB he]
      exact hi (mkE e) (h.perm.mem_iff.2 (List.mem_map.2 ⟨e,(left_mem.1 he).1,rfl⟩))
   refine qry (js:=[]) (K:=fun _=>False) (some (1,0)) 20000 (M:=usC (q1b (yng sk k) es seen) c [] sk lm k fe) (names:=n3) (fun z => ?_) (fun v es h=>h.elim)
   have hb:=hp (z 0 0)
   generalize he:qid (qoa es seen) (z 0 0)=e at hb
   have hbe:nxB (q1b (yng sk k) es seen) seen (z 0 0)=e.born:=by rw [hB,he]
   have hlt:(qoa es (app seen [e.born])).length<(qoa es seen).length:=q50 hb
   have hk1:vNum (qtd e.key 0)=(mkE e).1:=rfl
   by_cases hc:(mkE e).1+sk<k
   . have hr:=jcg (q1b (yng sk k) es seen) c seen sk lm k fe J z
     rw [hbe,hgB hb,qc1] at hr
     have hno:=jzd (p:=yng sk k) h hb (by unfold yng; rw [decide_eq_true hc]; rfl)
     have hno:delK (q1b (yng sk k) es seen) (keyM (mkOf e.key))=q1b (yng sk k) es (app seen [e.born]):=hno
     rw [hno] at hr
     refine ⟨_,_,_,hr,q9k (hQ hb) (all_cons (decide_eq_true hc) qca),?_⟩
     show SeenTurn _ _ _ _ _ _
     subst hcl
     exact SeenTurn.of (C:=usK (es:=es) (c:=c) sk lm cl fe now) (app seen [e.born]) ⟨q0q ha hb,hlt⟩ (us_n _ c _ sk lm _ fe _ _ _)
   . have hr:=j0d (q1b (yng sk k) es seen) c seen sk lm k fe J z
     rw [hbe,hgB hb] at hr
     have hy:=q19 (p:=yng sk k) (seen:=seen) hm.nd (left_mem.1 hb).1 (by unfold yng; rw [decide_eq_false hc]; rfl)
     refine ⟨_,_,_,hr,q9k (hQ hb) (all_cons (decide_eq_false hc) qca),?_⟩
     rw [← hy]
     show SeenTurn _ _ _ _ _ _
     subst hcl
     exact SeenTurn.of (C:=usK (es:=es) (c:=c) sk lm cl fe now) (app seen [e.born]) ⟨q0q ha hb,hlt⟩ (us_n _ c _ sk lm _ fe _ _ _)
end
def lsM (es:List MapEntry):List Mk:=srtM (es.map mkE)
theorem qdo {es:List MapEntry} {c:Nat} {l:List Mk} (h:MarkOK es c l):lsM es=l:=h.srt (.refl _)
def ChOK (es:List MapEntry) (c:Nat):Prop:=MarkOK es c (lsM es)
def esU (es:List MapEntry) (sk k:Int):List MapEntry:=es.filter fun e=>yng sk k (mkE e)
def usSm:Summ:=fun args H _=>qbe args fun p n=>chV H p fun d=>optC (i64V n) (.stuck 7978) fun now =>
 .need (ChOK d.es d.c/\∀ m∈lsM d.es,qsa (m.1+d.sk.den)) (.ok ⟨.tuple [],qsw d.nm d.mm d.sk.den d.lm.den (clk now.den d.cl.den) d.fe.den (esU d.es d.sk.den (clk now.den d.cl.den)) d.c,[]⟩)
theorem usOK:qob Tryd.prog 37 usSm:=by
 intro glob O w0 β H w base args vs hH hG ha
 refine q5b fun p n hv=>qap fun d hd=>qia fun now hn => ?_
 rw [hv,hd.ptr,qbf hn] at ha
 rintro ⟨h,hi⟩
 refine qhg (c:=cfgP0) hH (chI d [.int .i64 (.sym now.den)]) (by intro g j hg; cases hg) ?_ (qwy hd rfl) [] (by simp) (by simp) (qyc (j1d d.sk.den d.lm.den d.cl.den d.fe.den now.den h hi) fun v H2 ⟨h1,h2,h3⟩ => ?_)
 . exact qpa (.refl _) (qpa (q9a rfl) qcd) _ _ ha
 . subst h1
   exact ⟨.refl _,rfl,qb1 h2 h3,trivial⟩
end
end Go.Proofs.YthkgcljngalafaaDoor.Aes
