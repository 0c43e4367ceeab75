/-
  Texts behind one another: the symbolic simulator and what it is told of the program.
-/
import Derived.Test.YthkgcljngalafaaDoorPs5
import Derived.Test.YthkgcljngalafaaDoorProg
import Derived.Test.YthkgcljngalafaaDoorPs3
import Derived.Laws.Externs
import Derived.Shelf.SlSortCmp.WholeK
import Derived.Ground.SlsfProg
import Derived.Tactics
import Derived.Tactics2
import Derived.Recover
import Derived.Laws.Pointers
namespace Go.Sim
noncomputable section
variable {α:Type}
def rowF (X:Nat->BitVec 8) (n:Nat):SO:=.row (.fn (qna X) n)
theorem qic (X:Nat->BitVec 8):IsB (qna X):=fun i=>⟨X i,rfl⟩
theorem j5g {g:Nat->SV} (h:IsB g):qna (fun i=>byteOf (g i))=g:=by
 funext i
 obtain ⟨x,hx⟩:=h i
 show SV.int IntKind.u8 (SI.b8 (byteOf (g i)))=_
 rw [hx]; rfl
def qdy (c:Cells) (f:(Nat->BitVec 8)->Nat->R α):R α :=
 Cells.rec (motive:=fun _=>R α) (fun l=>optC (unb l) (.stuck 710) fun xs=>f (q4a xs) (lenN xs)) (fun g n=>.need (IsB g) (f (fun i=>byteOf (g i)) n)) (fun V n=>.need (∀ i,i<n->fitK (.i .u8) (V i)) (f (fun i=>BitVec.ofInt 8 (vNum (V i))) n)) c
def q2f (e:Option SO) (f:(Nat->BitVec 8)->Nat->R α):R α :=
 optC e (.stuck 711) fun e=>SO.rec (motive:=fun _=>R α) (fun c _ _=>qdy c f) (fun c=>qdy c f) (fun _ _ _ _ _ _ _ _=>.stuck 712) (fun _=>.stuck 712) (.stuck 712) (fun _=>.stuck 712) e
theorem qz6 {γ:Val}:∀ {xs:List (BitVec 8)} {vs:List Value},SV.denL γ (bx xs)=some vs->CellsRel γ (.fn (qna (q4a xs)) xs.length) vs
 | [],vs,h=>by cases h; exact ⟨rfl,fun i x hx=>by simp at hx⟩
 | x::xs,vs,h=>by
   obtain ⟨v,us,hv,hu,rfl⟩:=denL_cons.1 (show SV.denL γ (.int .u8 (.b8 x)::bx xs)=some vs from h)
   obtain ⟨h1,h2⟩:=qz6 hu
   refine ⟨by simp [h1],fun i y hy => ?_⟩
   cases i with
   | zero =>
     simp at hy; subst hy
     cases hv; rfl
   | succ i =>
     have:=h2 i y (by simpa using hy)
     exact this
theorem qms {c:Cells} {f:(Nat->BitVec 8)->Nat->R α} {φ:α->Prop} (h:∀ X n,c.Imp (.fn (qna X) n)->(f X n).Sat φ):(qdy c f).Sat φ:=by
 cases c with
 | lst l =>
   refine qka fun xs hx=>h _ _ fun γ vs hv => ?_
   rw [qha]
   exact qz6 (qv0 hx _ _ hv)
 | fn g n =>
   intro hg
   refine h _ _ ?_
   rw [j5g hg]; exact .refl _
 | raw V n =>
   intro hg
   refine h _ _ fun γ vs hv=>⟨hv.1,fun i x hx => ?_⟩
   have hlt:=(List.getElem?_eq_some_iff.1 hx).1
   have hn:=hv.1
   rw [hv.2 i x hx]
   exact congrArg some (qo0 (hg i (by omega))).symm
theorem qid {e:Option SO} {f:(Nat->BitVec 8)->Nat->R α} {φ:α->Prop} (h:∀ X n,(∀ g,∃ e',e=some e'/\Taken g (rowF X n) e')->(f X n).Sat φ):(q2f e f).Sat φ:=by
 refine qka fun e' he => ?_
 cases e' with
 | own c w el=>exact qms fun X n hi=>h X n fun g=>⟨_,he,qei (c0:=c) (.inr ⟨w,el,rfl⟩) hi.front⟩
 | row c=>exact qms fun X n hi=>h X n fun g=>⟨_,he,qei (c0:=c) (.inl rfl) hi.front⟩
 | loop=>trivial
 | deferred=>trivial
 | gone=>trivial
 | obj=>trivial
theorem qfi (p:Nat->Bool) (X:Nat->BitVec 8) (n:Nat):(rowF X n).CUses p:=fun _=>rfl
def q8k (v:SV) (nil:R α) (f:SA->SN->R α):R α :=
 SV.rec (motive_1:=fun _=>R α) (motive_2:=fun _=>Unit) (fun _ _=>.stuck 713) (fun _=>.stuck 713) (fun _=>.stuck 713) (fun _=>.stuck 713) (.stuck 713) (fun a l _=>f a l) nil (fun _=>.stuck 713) (.stuck 713) (fun _ _ _ _ _=>.stuck 713) (.stuck 713) (fun _ _ _=>.stuck 713) (.stuck 713) (fun _ _=>.stuck 713) (fun _ _=>.stuck 713) (fun _=>.stuck 713) (fun _ _ _ _=>.stuck 713) () (fun _ _ _ _=>()) v
theorem qcf {γ:Val} {a:SA} {l:SN} {c:SC} {x:Value} (h:(SV.slice a l c).den γ=some x):∃ m,l.den<=m/\(SV.slice ⟨a.nm,.sym a.off.den⟩ (.sym l.den) (.sym m)).den γ=some x/\(SV.slice ⟨a.nm,.sym a.off.den⟩ l (.sym m)).den γ=some x/\(SV.slice a l (.sym m)).den γ=some x:=by
 simp only [SV.den,Option.bind_eq_some_iff] at h
 obtain ⟨y,hy,m,hm,hs⟩:=h
 unfold q3m at hs
 have hl:l.den<=m:=by
  by_cases h:l.den<=m
  . exact h
  . rw [if_neg h] at hs; cases hs
 have hy':(⟨a.nm,.sym a.off.den⟩:SA).den γ=some y:=hy
 refine ⟨m,hl,?_,?_,?_⟩
 . simp only [SV.den,Option.bind_eq_some_iff]
   exact ⟨y,hy',m,rfl,hs⟩
 . simp only [SV.den,Option.bind_eq_some_iff]
   exact ⟨y,hy',m,rfl,hs⟩
 . simp only [SV.den,Option.bind_eq_some_iff]
   exact ⟨y,hy,m,rfl,hs⟩
theorem q5g {v:SV} {nil:R α} {f:SA->SN->R α} {φ:α->Prop} (h0:v=.nilSlice->nil.Sat φ) (h:∀ a l c,v=.slice a l c->(f a l).Sat φ):(q8k v nil f).Sat φ:=by
 cases v <;> first | trivial | exact h0 rfl | exact h _ _ _ rfl
def qw3 (l:SN) (n:Nat) (t f:R α):R α:=SN.rec (motive:=fun _=>R α) (fun m=>boolC (Nat.beq m n) t f) (fun m=>.fork (decide (m=n)) t f) (fun o x=>.fork (decide (o+x.toNat=n)) t f) l
theorem q0u {l:SN} {n:Nat} {t f:R α} {φ:α->Prop} (h:l.den=n->t.Sat φ) (h':l.den≠n->f.Sat φ):(qw3 l n t f).Sat φ:=by
 cases l with
 | lit m=>exact q9e (fun hm=>h (q0b hm)) fun hm=>h' (qw6 hm)
 | sym m=>exact ⟨fun hm=>h (of_decide_eq_true hm),fun hm=>h' (of_decide_eq_false hm)⟩
 | byt o x=>exact ⟨fun hm=>h (of_decide_eq_true hm),fun hm=>h' (of_decide_eq_false hm)⟩
theorem qw9 {c:Cfg} (hc:CfgOK c) (n:Nat) {O:Nat->Prop} {w0 w:World} {β:Val} {H:List SO} {base:Nat} {f:FuncId} {vs:List Value} (hH:HeapRel0 c.P O w0 β H w)
  (I:Ifc) (hgl:∀ g j,c.glob g=some j->I.known j=true/\∃ l,β (I.big j)=some l/\l.blk=g/\l.off=0) (ha:SV.denL β (SV.renL I.big I.args)=some vs) (hI:I.Fits H) {r:SumRes} (keep:List Nat) (hk:∀ j∈keep,I.names.length<=j) (hkn:keep.Nodup)
  {js:List Nat} {ps:List Prop} {v:SV} {es:List (Option SO)} (h:outP js (qfa c n f I.args I.ents)=(ps,some (v,es))) (hp:∀ p∈ps,p) (hD:∀ H2:List SO,js.map (fun j=>H2[j]?)=es->I.Ends base keep r v H2):SumSem c.P H β w base f vs r :=
 qgm hc n hH I hgl ha hI keep hk hkn (qx0 h hp hD)
theorem q3o {c:Cfg} (hc:CfgOK c) (hgl:c.glob=fun _=>none) (n:Nat) {O:Nat->Prop} {w0 w:World} {β:Val} {H:List SO} {base:Nat} {f:FuncId} {vs:List Value} (hH:HeapRel0 c.P O w0 β H w)
  (I:Ifc) (ha:SV.denL β (SV.renL I.big I.args)=some vs) (hI:I.Fits H) {r:SumRes} (keep:List Nat) (hk:∀ j∈keep,I.names.length<=j) (hkn:keep.Nodup)
  {js:List Nat} {ps:List Prop} {v:SV} {es:List (Option SO)} (h:outP js (qfa c n f I.args I.ents)=(ps,some (v,es))) (hp:∀ p∈ps,p) (hD:∀ H2:List SO,js.map (fun j=>H2[j]?)=es->I.Ends base keep r v H2):SumSem c.P H β w base f vs r :=
 qu0 hc hgl n hH I ha hI keep hk hkn (qx0 h hp hD)
end
end Go.Sim
namespace Go.Proofs.YthkgcljngalafaaDoor.Aes
noncomputable section
open Go.Sim
open Go.Proofs
variable {α:Type}
theorem q06:ProgOK Tryd.prog:=by
 refine ⟨?_,by kernel_rfl⟩
 have h:(Tryd.prog.funcs.all fun fn => !(fn.body.isSome && fn.name == "runtime.NumGoroutine"))=true:=by kernel_rfl
 intro f fn hf hb
 have:=Array.all_eq_true'.1 h fn (Array.mem_of_getElem? hf)
 rw [hb] at this
 simpa using this
def cfgG (glob:Nat->Option Nat) (s:FuncId->Option Summ):Cfg:={ P:=Tryd.prog,glob:=glob,sums:=s,stopAt:=none }
def qbg (s:FuncId->Option Summ):Cfg:=cfgG (fun _=>none) s
def qkc (l:List (FuncId × Summ)):FuncId->Option Summ:=List.rec (motive:=fun _=>FuncId->Option Summ) (fun _=>none) (fun a _ ih f=>boolC (Nat.beq f a.1) (some a.2) (ih f)) l
theorem qie {glob:Nat->Option Nat}:∀ {l:List (FuncId × Summ)},(∀ x∈l,SumAt Tryd.prog glob x.1 x.2)->CfgOK (cfgG glob (qkc l))
 | [],_=>⟨q06,fun _ _ h=>(by cases h),fun _ _ h=>by cases h⟩
 | a::l,hl=>⟨q06,fun f s h=>by
   rcases qpc (show boolC (Nat.beq f a.1) (some a.2) (qkc l f)=some s from h) with ⟨hf,h⟩ | h
   . cases h; rw [q0b hf]; exact hl a List.mem_cons_self
   . exact (qie (l:=l) fun x hx=>hl x (List.mem_cons_of_mem _ hx)).sums f s h,fun _ _ h=>by cases h⟩
theorem qjd {l:List (FuncId × Summ)} (h:∀ x∈l,qdb Tryd.prog x.1 x.2):CfgOK (qbg (qkc l)):=qie fun x hx=>h x hx _
theorem all1 {x:FuncId × Summ} (h:qdb Tryd.prog x.1 x.2):∀ y∈[x],qdb Tryd.prog y.1 y.2:=by simpa using h
theorem allC {x:FuncId × Summ} {l:List (FuncId × Summ)} (h:qdb Tryd.prog x.1 x.2) (h':∀ y∈l,qdb Tryd.prog y.1 y.2):∀ y∈x::l,qdb Tryd.prog y.1 y.2:=by
 intro y hy
 rcases List.mem_cons.1 hy with rfl | hy
 . exact h
 . exact h' y hy
def cfg0:Cfg:=qbg (qkc [])
theorem qqj:CfgOK cfg0:=qjd (by simp)
end
end Go.Proofs.YthkgcljngalafaaDoor.Aes
namespace Go.Sim
noncomputable section
open Go.RowKit
variable {α:Type}
theorem spot_of {P:Program} {w:World} {r:Reach} {base t e:Nat} {a:Option Addr} {len cap:Nat} (ht:P.underlying t=some (.slice e)) (h:Value.okWide P w r base t (.slice a len cap)):∀ x,a=some x->x.spot=none:=by
 rintro x rfl
 simp only [Value.okWide,ht,Cell.okWide,Cell.ok] at h
 exact h.2.2.2.1
def ByteRow (w:World) (a:Option Addr) (len cap:Nat) (X:Nat->BitVec 8):Prop :=
 (a=none/\len=0/\cap=0)\/∃ x,a=some x/\x.spot=none/\len<=cap/\cap<=maxLen/\∀ i,i<cap->w.cell? (x.add i)=some (.int .u8 ((X i).toNat:Int))
theorem byteRow_of {w:World} {a:Option Addr} {len cap:Nat} {zs:List Int}
  (h:(a=none/\len=0/\cap=0/\zs=[])\/∃ x,a=some x/\len<=cap/\cap<=maxLen/\zs.length=cap/\(∀ i,i<zs.length->w.cell? (x.add i)=some (.int .u8 (zs.getD i 0)))/\∀ n∈zs,(Lit.int .u8 n).wf=true)
  (hs:∀ x,a=some x->x.spot=none):ByteRow w a len cap fun i=>BitVec.ofInt 8 (zs.getD i 0):=by
 rcases h with ⟨h1,h2,h3,_⟩ | ⟨x,hx,h1,h2,h3,h4,h5⟩
 . exact .inl ⟨h1,h2,h3⟩
 . refine .inr ⟨x,hx,hs x hx,h1,h2,fun i hi => ?_⟩
   rw [h4 i (by omega)]
   have hm:zs.getD i 0∈zs:=by
    rw [List.getD_eq_getElem?_getD,List.getElem?_eq_getElem (by omega)]
    exact List.getElem_mem _
   have hw:=h5 _ hm
   have hr:0<=zs.getD i 0/\zs.getD i 0<=255:=by
    generalize zs.getD i 0=n at hw
    simp [Lit.wf,IntKind.min,IntKind.max,IntKind.signed,IntKind.bits] at hw
    omega
   have:((BitVec.ofInt 8 (zs.getD i 0)).toNat:Int)=zs.getD i 0:=by
    rw [BitVec.toNat_ofInt]
    omega
   show _=some (Value.int .u8 ((BitVec.ofInt 8 (zs.getD i 0)).toNat:Int))
   rw [this]
theorem q16 {P:Program} {w:World} {β:Val} {H:List SO} (h:HeapRel P (fun _=>False) w β H w) {x:Addr} {len cap:Nat} {X:Nat->BitVec 8} (hs:x.spot=none) (hl:len<=cap)
  (hx:∀ i,i<cap->w.cell? (x.add i)=some (.int .u8 ((X i).toNat:Int))) :
  ∃ β',HeapRel P (fun _=>False) w β' (H++[rowF X cap]) w/\β.le β'/\(SV.slice ⟨H.length,.lit 0⟩ (.sym len) (.sym cap)).den β'=some (.slice (some x) len cap):=by
 have hsn:=h.snoc (⟨x.block,x.off,0⟩:Loc) (rowF X cap) ?_ (fun ho=>by cases ho)
 . refine ⟨_,hsn.1,hsn.2,?_⟩
   simp only [SV.den,SA.den,SC.den,Val.upd_same,Option.map_some,Option.bind_some,SN.den,Nat.add_zero,q3m]
   cases x; cases hs
   exact if_pos hl
 . refine ⟨_,(List.range cap).map fun i=>Value.int .u8 ((X i).toNat:Int),Val.upd_same ..,⟨by simp,fun i y hy => ?_⟩,fun i y hy => ?_⟩
   . rw [List.getElem?_map] at hy
     cases hi:(List.range cap)[i]? with
     | none=>rw [hi] at hy; cases hy
     | some j =>
       rw [hi] at hy; cases hy
       have:=List.getElem?_eq_some_iff.1 hi
       obtain ⟨h1,h2⟩:=this
       rw [List.getElem_range] at h2
       subst h2; rfl
   . rw [List.getElem?_map] at hy
     cases hi:(List.range cap)[i]? with
     | none=>rw [hi] at hy; cases hy
     | some j =>
       rw [hi] at hy; cases hy
       obtain ⟨h1,h2⟩:=List.getElem?_eq_some_iff.1 hi
       rw [List.getElem_range] at h2
       subst h2
       have hi:i<cap:=by simpa using h1
       have hc:=hx i hi
       have e:(x.add i:Addr)=⟨x.block,x.off+i,none⟩:=by
        cases x; cases hs
        unfold Addr.add
        split
        . rename_i h0; rw [h0]; rfl
        . rfl
       rw [e] at hc
       refine ⟨?_,fun f=>f,hc⟩
       unfold World.cell? at hc
       show x.block<w.heap.size
       by_cases hb:x.block<w.heap.size
       . exact hb
       . have hn:w.heap[x.block]? = none:=Array.getElem?_eq_none (by omega)
         simp only [hn] at hc
         cases hc
def outO (js:List Nat) (t:Tree):List Bool->List Prop × Option (SV × List (Option SO)) :=
 Tree.rec (motive:=fun _=>List Bool->List Prop × Option (SV × List (Option SO))) (fun v H _=>([],some (v,mapN (fun j=>nth H j) js))) (fun _ _=>([],none)) (fun p _ ih ds=>(p::(ih ds).1,(ih ds).2))
  (fun b _ _ iht ihf ds=>List.rec (motive:=fun _=>List Prop × Option (SV × List (Option SO))) ([],none) (fun d r _=>((b=d)::(boolC d (iht r) (ihf r)).1,(boolC d (iht r) (ihf r)).2)) ds) (fun _ _=>([],none)) (fun _ _ _=>([],none)) t
theorem q2b {js:List Nat} {t:Tree} {ds:List Bool} {ps:List Prop} {v:SV} {es:List (Option SO)} (h:outO js t ds=(ps,some (v,es))) (hp:∀ p∈ps,p) {D:SV->List SO->Prop} {S:SS->Prop} (hD:∀ H:List SO,js.map (fun j=>H[j]?)=es->D v H):t.Ob D S:=by
 induction t generalizing ps ds with
 | done v' H =>
   have h':([],some (v',mapN (fun j=>nth H j) js))=(ps,some (v,es)):=h
   have h1:=Option.some.inj (Prod.mk.inj h').2
   obtain ⟨h2,h3⟩:=Prod.mk.inj h1
   subst h2
   refine hD H ?_
   rw [qja] at h3
   rw [← h3]
   exact List.map_congr_left fun j _=>(qca H j).symm
 | stop=>cases (Prod.mk.inj (show ([],none)=(ps,some (v,es)) from h)).2
 | need p t ih =>
   have h':(p::(outO js t ds).1,(outO js t ds).2)=(ps,some (v,es)):=h
   obtain ⟨h1,h2⟩:=Prod.mk.inj h'
   subst h1
   exact ⟨hp p List.mem_cons_self,ih (ds:=ds) (ps:=(outO js t ds).1) (by rw [← h2]) fun q hq=>hp q (List.mem_cons_of_mem _ hq)⟩
 | fork b t f iht ihf =>
   cases ds with
   | nil=>cases (Prod.mk.inj (show ([],none)=(ps,some (v,es)) from h)).2
   | cons d r =>
     have h':((b=d)::(boolC d (outO js t r) (outO js f r)).1,(boolC d (outO js t r) (outO js f r)).2)=(ps,some (v,es)):=h
     obtain ⟨h1,h2⟩:=Prod.mk.inj h'
     subst h1
     have hb:=hp _ List.mem_cons_self
     cases d with
     | true=>exact ⟨fun _=>iht (ds:=r) (ps:=(outO js t r).1) (by rw [← h2]; rfl) fun q hq=>hp q (List.mem_cons_of_mem _ hq),fun hf=>by rw [hf] at hb; cases hb⟩
     | false=>exact ⟨fun ht=>(by rw [ht] at hb; cases hb),fun _=>ihf (ds:=r) (ps:=(outO js f r).1) (by rw [← h2]; rfl) fun q hq=>hp q (List.mem_cons_of_mem _ hq)⟩
 | stuck=>cases (Prod.mk.inj (show ([],none)=(ps,some (v,es)) from h)).2
 | any=>cases (Prod.mk.inj (show ([],none)=(ps,some (v,es)) from h)).2
theorem qey {c:Cfg} (hc:CfgOK c) (hgl:c.glob=fun _=>none) (n:Nat) {O:Nat->Prop} {w0 w:World} {β:Val} {H:List SO} {base:Nat} {f:FuncId} {vs:List Value} (hH:HeapRel0 c.P O w0 β H w)
  (I:Ifc) (ha:SV.denL β (SV.renL I.big I.args)=some vs) (hI:I.Fits H) {r:SumRes} (keep:List Nat) (hk:∀ j∈keep,I.names.length<=j) (hkn:keep.Nodup)
  {js:List Nat} {ds:List Bool} {ps:List Prop} {v:SV} {es:List (Option SO)} (h:outO js (qfa c n f I.args I.ents) ds=(ps,some (v,es))) (hp:∀ p∈ps,p) (hD:∀ H2:List SO,js.map (fun j=>H2[j]?)=es->I.Ends base keep r v H2):SumSem c.P H β w base f vs r :=
 qu0 hc hgl n hH I ha hI keep hk hkn (q2b h hp hD)
theorem q1u {c:Cfg} (hc:CfgOK c) (n:Nat) {O:Nat->Prop} {w0 w:World} {β:Val} {H:List SO} {base:Nat} {f:FuncId} {vs:List Value} (hH:HeapRel0 c.P O w0 β H w)
  (I:Ifc) (hgl:∀ g j,c.glob g=some j->I.known j=true/\∃ l,β (I.big j)=some l/\l.blk=g/\l.off=0) (ha:SV.denL β (SV.renL I.big I.args)=some vs) (hI:I.Fits H) {r:SumRes} (keep:List Nat) (hk:∀ j∈keep,I.names.length<=j) (hkn:keep.Nodup)
  {js:List Nat} {ds:List Bool} {ps:List Prop} {v:SV} {es:List (Option SO)} (h:outO js (qfa c n f I.args I.ents) ds=(ps,some (v,es))) (hp:∀ p∈ps,p) (hD:∀ H2:List SO,js.map (fun j=>H2[j]?)=es->I.Ends base keep r v H2):SumSem c.P H β w base f vs r :=
 qgm hc n hH I hgl ha hI keep hk hkn (q2b h hp hD)
theorem qba:∀ p∈([]:List Prop),p:=by simp
theorem all_cons {p:Prop} {ps:List Prop} (h:p) (hs:∀ q∈ps,q):∀ q∈p::ps,q:=by
 intro q hq
 rcases List.mem_cons.1 hq with rfl | hq
 . exact h
 . exact hs q hq
end
noncomputable section
variable {α:Type}
structure SP where
 fn:FuncId
 tmps:List (Option SV)
 todo:List SItem
 defers:List SD
 roundOf:Option Nat
inductive HP where
 | ent (e:SO)
 | loop (state:LoopState) (pending:Option Code) (fn:FuncId) (tmps:List (Option SV)) (params:Array Tmp) (assign body:Code) (defers:Nat)
structure Cut where
 frames:List SP
 heap:List HP
structure Junk where
 fr:Nat->Nat->Value
 hp:Nat->Nat->Value
def qx3 (js:Nat->Value) (T:List (Option SV)):Nat->List SV :=
 List.rec (motive:=fun _=>Nat->List SV) (fun _=>[]) (fun o _ ih k=>optC o (.val (js k)) (fun v=>v)::ih (Nat.succ k)) T
def SP.fill (js:Nat->Value) (p:SP):SF:=⟨p.fn,qx3 js p.tmps 0,p.todo,p.defers,p.roundOf⟩
def q26 (J:Nat->Nat->Value) (l:List SP):Nat->List SF:=List.rec (motive:=fun _=>Nat->List SF) (fun _=>[]) (fun p _ ih i=>p.fill (J i)::ih (Nat.succ i)) l
def HP.fill (js:Nat->Value) (E:HP):SO:=HP.rec (motive:=fun _=>SO) (fun e=>e) (fun s p f T ps a b d=>.loop s p f (qx3 js T 0) ps a b d) E
def qrj (J:Nat->Nat->Value) (l:List HP):Nat->List SO:=List.rec (motive:=fun _=>Nat->List SO) (fun _=>[]) (fun p _ ih i=>p.fill (J i)::ih (Nat.succ i)) l
def Cut.fill (J:Junk) (C:Cut):SS:=⟨q26 J.fr C.frames 0,qrj J.hp C.heap 0⟩
def SItem.ren (f:Nat->Nat):SItem->SItem
 | .inRF n=>.inRF (f n)
 | .endRF n=>.endRF (f n)
 | x=>x
def SD.ren (f:Nat->Nat):SD->SD
 | .coll n=>.coll (f n)
 | .call g xs ys=>.call (g.ren f) (SV.renL f xs) (SV.renL f ys)
theorem ItemRel.ren {β:Val} (f:Nat->Nat) {x:SItem} {y:Item} (h:ItemRel β (x.ren f) y):ItemRel (fun n=>β (f n)) x y:=by
 cases x <;> cases y <;> exact h
theorem TodoRel.ren {β:Val} (f:Nat->Nat):∀ {x:List SItem} {y:List Item},TodoRel β (x.map (SItem.ren f)) y->TodoRel (fun n=>β (f n)) x y
 | [],[],_=>trivial
 | _::_,_::_,h=>⟨ItemRel.ren f h.1,TodoRel.ren f h.2⟩
 | [],_::_,h=>h.elim
 | _::_,[],h=>h.elim
theorem SD.den_ren (f:Nat->Nat) (β:Val) (d:SD):(d.ren f).den β=d.den (fun n=>β (f n)):=by
 cases d with
 | coll n=>rfl
 | call g xs ys=>simp only [SD.ren,SD.den,SFn.den_ren,SV.denL_ren]
theorem SD.denL_ren (f:Nat->Nat) (β:Val):∀ l:List SD,SD.denL β (l.map (SD.ren f))=SD.denL (fun n=>β (f n)) l
 | []=>rfl
 | d::l=>by simp only [List.map_cons,SD.denL,SD.den_ren,SD.denL_ren f β l]
def GenT (f:Nat->Nat):List SV->List (Option SV)->Prop
 | v::vs,some u::us=>v.Imp (u.ren f)/\GenT f vs us
 | _::vs,none::us=>GenT f vs us
 | [],[]=>True
 | _,_=>False
structure GenF (f:Nat->Nat) (s:SF) (p:SP):Prop where
 fn:s.fn=p.fn
 tmps:GenT f s.tmps p.tmps
 todo:s.todo=p.todo.map (SItem.ren f)
 defers:s.defers=p.defers.map (SD.ren f)
 roundOf:s.roundOf=p.roundOf.map f
def qfw (f:Nat->Nat):List SF->List SP->Prop
 | s::ss,p::ps=>GenF f s p/\qfw f ss ps
 | [],[]=>True
 | _,_=>False
def GenE (f:Nat->Nat) (e:Option SO) (E:HP):Prop :=
 match E with
 | .ent (.own c w el)=>∃ c0,e=some (.own c0 w el)/\c0.Imp (c.ren f)
 | .ent (.row c)=>∃ c0,e=some (.row c0)/\c0.Imp (c.ren f)
 | .ent (.deferred ds)=>e=some (.deferred (ds.map (List.map (SD.ren f))))
 | .ent (.obj o)=>∃ o0,e=some (.obj o0)/\o0.Imp (o.ren f)
 | .ent .gone=>True
 | .ent (.loop ..)=>False
 | .loop s p g T ps a b d=>∃ T0,e=some (.loop s p g T0 ps a b (f d))/\GenT f T0 T
def qbb (names:List Nat) (N j:Nat):Nat:=optC (nth names j) (Nat.add N j) fun n=>n
structure Gen (k0:Nat) (s:SS) (C:Cut) (names:List Nat):Prop where
 keep:∀ j,j<k0->names[j]? = some j
 nodup:names.Nodup
 len:names.length=C.heap.length
 frames:qfw (qbb names s.heap.length) s.frames C.frames
 heap:∀ j E,C.heap[j]? = some E->GenE (qbb names s.heap.length) s.heap[qbb names s.heap.length j]? E
structure BaseOK (k0:Nat) (B:Base):Prop where
 fix:∀ n,k0<=n->B.fix n=none
 glob:∀ g nm,B.glob g=some nm->nm<k0
theorem q7j {β β':Val} {f:Nat->Nat} (hβ:β'=fun n=>β (f n)) {js:Nat->Value}:∀ {vs:List SV} {T:List (Option SV)} {xs:List Value} {o:Nat},SV.denL β vs=some xs->GenT f vs T->(∀ k x,xs[k]? = some x->js (o+k)=x)->SV.denL β' (qx3 js T o)=some xs
 | [],[],xs,o,h,_,_=>h
 | v::vs,u::us,xs,o,h,hg,hj=>by
   obtain ⟨y,ys,hy,hys,rfl⟩:=denL_cons.1 h
   have hj':∀ k x,ys[k]? = some x->js (o+1+k)=x:=fun k x hk=>by
    rw [show o+1+k=o+(k+1) from by omega]; exact hj (k+1) x (by simpa using hk)
   cases u with
   | some u =>
     refine denL_cons.2 ⟨y,ys,?_,q7j hβ hys hg.2 hj',rfl⟩
     show u.den β'=_
     rw [hβ,← SV.den_ren]; exact hg.1 _ _ hy
   | none =>
     refine denL_cons.2 ⟨y,ys,?_,q7j hβ hys hg hj',rfl⟩
     show some (js o)=_
     rw [show o=o+0 from rfl,hj 0 y rfl]
 | [],_::_,_,_,_,h,_=>h.elim
 | _::_,[],_,_,_,h,_=>h.elim
theorem q2u {names:List Nat} {N j:Nat} (h:j<names.length):names[j]? = some (qbb names N j):=by
 unfold qbb
 rw [qca,List.getElem?_eq_getElem h]; rfl
theorem q36 {names:List Nat} {N j:Nat} (h:names.length<=j):qbb names N j=N+j:=by
 unfold qbb
 rw [qca,List.getElem?_eq_none h]; rfl
theorem qns (J:Nat->Nat->Value):∀ (l:List HP) (o i:Nat),(qrj J l o)[i]? = l[i]?.map (HP.fill (J (o+i)))
 | [],_,_=>by simp [qrj]
 | _::_,_,0=>rfl
 | _::l,o,i+1=>by
   show (qrj J l (o+1))[i]? = _
   rw [qns J l (o+1) i,show o+1+i=o+(i+1) from by omega]; simp
theorem q1m (J:Nat->Nat->Value):∀ (l:List HP) (o:Nat),(qrj J l o).length=l.length
 | [],_=>rfl
 | _::l,o=>congrArg (· + 1) (q1m J l (o+1))
theorem HP.owned_fill {f:Nat->Nat} {js:Nat->Value} {e:Option SO} {E:HP} (h:GenE f e E) (ho:(E.fill js).owned=true):∃ e0,e=some e0/\e0.owned=true:=by
 cases E with
 | ent E =>
   cases E with
   | own c w el=>obtain ⟨c0,rfl,_⟩:=h; exact ⟨_,rfl,rfl⟩
   | row c=>cases ho
   | loop=>exact h.elim
   | deferred ds=>have h:e=_:=h; subst h; exact ⟨_,rfl,rfl⟩
   | gone=>cases ho
   | obj o=>obtain ⟨o0,rfl,_⟩:=h; exact ⟨_,rfl,rfl⟩
 | loop s p g T ps a b d=>obtain ⟨T0,rfl,_⟩:=h; exact ⟨_,rfl,rfl⟩
theorem q9k {β β':Val} {f:Nat->Nat} (hβ:β'=fun n=>β (f n)) {J:Nat->Nat->Value}:∀ {ss:List SF} {ps:List SP} {fs:List Frame} {o:Nat},FramesRel β ss fs->qfw f ss ps->(∀ i fr,fs[i]? = some fr->∀ k x,fr.tmps.toList[k]? = some x->J (o+i) k=x)->FramesRel β' (q26 J ps o) fs
 | [],[],[],o,_,_,_=>trivial
 | s::ss,p::ps,fr::fs,o,h,hg,hj=>by
   have h0:=hj 0 fr rfl
   refine ⟨?_,q9k hβ h.2 hg.2 fun i fr' hi k x hk => ?_⟩
   . obtain ⟨h1,h2,h3,h4,h5,h6,h7⟩:=h.1
     obtain ⟨g1,g2,g3,g4,g5⟩:=hg.1
     refine ⟨h1.trans g1,?_,?_,?_,h5,h6,?_⟩
     . exact q7j hβ h2 g2 fun k x hk=>by rw [Nat.zero_add]; exact h0 k x hk
     . rw [hβ]; rw [g3] at h3; exact TodoRel.ren f h3
     . show SD.denL β' p.defers=_
       rw [hβ,← SD.denL_ren,← g4]; exact h4
     . show RoundRel β' p.roundOf fr.roundOf
       rw [hβ]
       rw [g5] at h7
       cases hp:p.roundOf <;> cases hr:fr.roundOf <;> rw [hp,hr] at h7 <;> exact h7
   . rw [show o+1+i=o+(i+1) from by omega]
     exact hj (i+1) fr' (by simpa using hi) k x hk
 | [],_::_,_,_,_,h,_=>h.elim
 | _::_,[],_,_,_,h,_=>h.elim
 | [],[],_::_,_,h,_,_=>h.elim
 | _::_,_::_,[],_,h,_,_=>h.elim
theorem Cells.den_ren (f:Nat->Nat) {β:Val} {c:Cells} {vs:List Value} (h:CellsRel β (c.ren f) vs):CellsRel (fun n=>β (f n)) c vs:=by
 cases c with
 | lst l =>
   have h:SV.denL β (SV.renL f l)=some vs:=h
   rw [SV.denL_ren] at h; exact h
 | fn g n =>
   obtain ⟨h1,h2⟩:=h
   refine ⟨h1,fun i x hx => ?_⟩
   have:=h2 i x hx
   rw [SV.den_ren] at this; exact this
 | raw V n=>exact h
theorem jbe {B:Base} {k0:Nat} (hB:BaseOK k0 B) {s:SS} {C:Cut} {names:List Nat} (h:Gen k0 s C names) {m:Machine} (hM:MRel B s m):∃ J,MRel B (C.fill J) m:=by
 obtain ⟨β,fr,frs,w,rfl,hFs,hH,hG,hl⟩:=hM.ex
 obtain ⟨hkeep,hnd,hlen,hgf,hgh⟩:=h
 generalize hf:qbb names s.heap.length=f at hgf hgh
 have hlt:∀ j,j<names.length->names[j]? = some (f j):=fun j hj=>by rw [← hf]; exact q2u hj
 have hge:∀ j,names.length<=j->f j=s.heap.length+j:=fun j hj=>by rw [← hf]; exact q36 hj
 have hid:∀ j,j<k0->f j=j:=fun j hj=>by
  have h1:=hkeep j hj
  have h2:=(List.getElem?_eq_some_iff.1 h1).1
  rw [hlt j h2] at h1; exact Option.some.inj h1
 have hinj:∀ i j,i<names.length->j<names.length->f i=f j->i=j:=fun i j hi hj he=>by
  have h1:=hlt i hi
  have h2:=hlt j hj
  rw [he] at h1
  exact (List.getElem?_inj hi hnd).1 (h1.trans h2.symm)
 let J:Junk:=⟨fun i k=>(((fr::frs)[i]?).bind fun g=>g.tmps.toList[k]?).getD undef,fun j k=>((β (f j)).bind fun l=>match w.heap[l.blk]? with | some (.loop r)=>r.tmps.toList[k]? | _=>none).getD undef⟩
 have hent:∀ j e,(qrj J.hp C.heap 0)[j]? = some e->∃ E:HP,C.heap[j]? = some E/\e=E.fill (J.hp j):=fun j e he=>by
  rw [qns,Nat.zero_add] at he
  cases hE:C.heap[j]? with
  | none=>rw [hE] at he; cases he
  | some E=>rw [hE] at he; exact ⟨E,rfl,(Option.some.inj he).symm⟩
 have hjl:∀ j E,C.heap[j]? = some E->j<names.length:=fun j E h=>by rw [hlen]; exact (List.getElem?_eq_some_iff.1 h).1
 refine ⟨J,⟨fun n=>β (f n),fr,frs,w,rfl,?_,⟨⟨?_,?_,?_,hH.keep⟩,?_⟩,⟨?_,?_⟩,hl⟩⟩
 . refine q9k rfl hFs hgf fun i g hi k x hk => ?_
   show (((fr::frs)[0+i]?).bind fun g=>g.tmps.toList[k]?).getD undef=x
   rw [Nat.zero_add,hi]
   show (g.tmps.toList[k]?).getD undef=x
   rw [hk]; rfl
 . intro j e he
   obtain ⟨E,hE,rfl⟩:=hent j e he
   have hg:=hgh j E hE
   have hold:=hH.entries (f j)
   cases E with
   | ent E =>
     cases E with
     | own c wh el =>
       obtain ⟨c0,h1,hi⟩:=hg
       obtain ⟨l,vs,rest,lo,hi2,hl2,h0,hc,hh,hz,hw,hcap⟩:=hold _ h1
       exact ⟨l,vs,rest,lo,hi2,hl2,h0,Cells.den_ren f (hi _ _ hc),hh,hz,hw,hcap⟩
     | row c =>
       obtain ⟨c0,h1,hi⟩:=hg
       obtain ⟨l,vs,hl2,hc,hx⟩:=hold _ h1
       exact ⟨l,vs,hl2,Cells.den_ren f (hi _ _ hc),hx⟩
     | loop=>exact hg.elim
     | deferred ds =>
       obtain ⟨l,ds',hl2,hd,hh⟩:=hold _ hg
       refine ⟨l,ds',hl2,?_,hh⟩
       cases ds with
       | none=>exact hd
       | some ds =>
         have hd:(SD.denL β (ds.map (SD.ren f))).map some=some ds':=hd
         rw [SD.denL_ren] at hd; exact hd
     | gone=>trivial
     | obj o =>
       obtain ⟨o0,h1,hi⟩:=hg
       obtain ⟨l,x,hl2,h0,hd,hh⟩:=hold _ h1
       refine ⟨l,x,hl2,h0,?_,hh⟩
       rw [← SObj.den_ren]
       exact hi _ _ hd
   | loop st p g T ps a b d =>
     obtain ⟨T0,h1,hT⟩:=hg
     obtain ⟨l,ld,Ts,hl2,hd,hTs,hh⟩:=hold _ h1
     refine ⟨l,ld,Ts,hl2,hd,?_,hh⟩
     refine q7j rfl hTs hT fun k x hk => ?_
     show ((β (f j)).bind fun l=>_).getD undef=x
     rw [hl2]
     simp only [Option.bind_some,hh,Nat.zero_add,hk]
     rfl
 . intro i j e e' l l' hi hj ho ho' hij hl1 hl2
   obtain ⟨E,hE,rfl⟩:=hent i e hi
   obtain ⟨E',hE',rfl⟩:=hent j e' hj
   obtain ⟨e0,h1,h2⟩:=HP.owned_fill (hgh i E hE) ho
   obtain ⟨e1,h3,h4⟩:=HP.owned_fill (hgh j E' hE') ho'
   exact hH.sep (f i) (f j) e0 e1 l l' h1 h3 h2 h4 (fun he=>hij (hinj i j (hjl i E hE) (hjl j E' hE') he)) hl1 hl2
 . intro j e l he ho hl1
   obtain ⟨E,hE,rfl⟩:=hent j e he
   obtain ⟨e0,h1,h2⟩:=HP.owned_fill (hgh j E hE) ho
   exact hH.fresh (f j) e0 l h1 h2 hl1
 . intro n hn
   have hn:(qrj J.hp C.heap 0).length<=n:=hn
   rw [q1m,← hlen] at hn
   show β (f n)=none
   rw [hge n hn]
   exact hH.bound _ (Nat.le_add_right _ _)
 . intro g nm hg
   obtain ⟨l,h1,h2⟩:=hG.glob g nm hg
   exact ⟨l,by show β (f nm)=some l; rw [hid nm (hB.glob g nm hg)]; exact h1,h2⟩
 . intro n l hn
   show β (f n)=some l
   by_cases hk:n<k0
   . rw [hid n hk]; exact hG.fix n l hn
   . rw [hB.fix n (by omega)] at hn; cases hn
def qui {A:Type} (k0:Nat) (C:A->Cut) (Q:A->Prop) (s:SS):Prop:=∀ B m,BaseOK k0 B->MRel B s m->∃ a J,Q a/\MRel B ((C a).fill J) m
theorem qhm {A:Type} {k0:Nat} {C:A->Cut} {Q:A->Prop} {s:SS} (a:A) (hq:Q a) (names:List Nat) (h:Gen k0 s (C a) names):qui k0 C Q s :=
 fun _ _ hB hM=>let ⟨J,hJ⟩:=jbe hB h hM; ⟨a,J,hq,hJ⟩
def Cfg.at (c:Cfg) (st:Option (Nat × Nat)):Cfg:={ P:=c.P,glob:=c.glob,sums:=c.sums,stopAt:=st,dsum:=c.dsum }
theorem CfgOK.at {c:Cfg} (hc:CfgOK c) (st:Option (Nat × Nat)):CfgOK (c.at st):=⟨hc.prog,hc.sums,hc.dsum⟩
theorem q46 {c:Cfg} (hc:CfgOK c) {B:Base} {k0:Nat} (hB:BaseOK k0 B) (hP:B.P=c.P) (hgl:B.glob=c.glob) {A:Type} (C:A->Cut) (OK:A->Prop) (μ:A->Nat) {D:SV->List SO->Prop}
  (hs:∀ a,OK a->∀ J,∃ st n,(sim1 (c.at st) n ((C a).fill J)).Ob D (qui k0 C fun a'=>OK a'/\μ a'<μ a)) :
  ∀ (k:Nat) (a:A) (J:Junk) (m:Machine),μ a<k->OK a->MRel B ((C a).fill J) m->∃ m' v H,Steps B.P m m'/\D v H/\DoneRel B v H m':=by
 intro k
 induction k with
 | zero=>intro a J m h; omega
 | succ k ih =>
   intro a J m hk ha hM
   obtain ⟨st,n,hs'⟩:=hs a ha J
   obtain ⟨m1,hst,⟨v,H,hD,hdone⟩ | ⟨s,hS,hM1⟩⟩:=qt3 (B:=B) (hc.at st) hP hgl hM hs'
   . exact ⟨m1,v,H,hst,hD,hdone⟩
   . obtain ⟨a',J',⟨ha',hμ⟩,hM2⟩:=hS B m1 hB hM1
     obtain ⟨m2,v,H,hst2,hD,hdone⟩:=ih a' J' m1 (by omega) ha' hM2
     exact ⟨m2,v,H,hst.trans hst2,hD,hdone⟩
def Runs (c:Cfg) (f:FuncId) (args:List SV) (H:List SO) (D:SV->List SO->Prop):Prop :=
 (∃ fn,c.P.funcs[f]? = some fn/\fn.body.isSome=true)/\∀ (O:Nat->Prop) (w0 w:World) (β:Val) (vs:List Value),HeapRel c.P O w0 β H w->GlobRel c.glob β->SV.denL β args=some vs->Calls c.P f vs.toArray w (Came c.P O w0 β D)
theorem q8i {c:Cfg} (hc:CfgOK c) {n:Nat} {f:FuncId} {args:List SV} {H:List SO} {D:SV->List SO->Prop} (hob:(qfa c n f args H).Ob D fun _=>False):Runs c f args H D:=by
 refine ⟨?_,fun O w0 w β vs hH hG ha=>qrq hc hH hG ha hob⟩
 unfold qfa at hob
 cases hg:q7d c.P f args with
 | none=>rw [hg] at hob; exact hob.elim
 | some g=>exact qnk hg
theorem q56 {c:Cfg} (hc:CfgOK c) {A:Type} (C:A->Cut) (OK:A->Prop) (μ:A->Nat) {D:SV->List SO->Prop} {f:FuncId} {args:List SV} {H:List SO} (hgl:∀ g nm,c.glob g=some nm->nm<H.length)
  (h0:∃ st n,(qfa (c.at st) n f args H).Ob D (qui H.length C OK))
  (hs:∀ a,OK a->∀ J,∃ st n,(sim1 (c.at st) n ((C a).fill J)).Ob D (qui H.length C fun a'=>OK a'/\μ a'<μ a)):Runs c f args H D:=by
 obtain ⟨st0,n0,h0⟩:=h0
 unfold qfa at h0
 cases hg:q7d (c.at st0).P f args with
 | none=>rw [hg] at h0; exact h0.elim
 | some g =>
   rw [hg] at h0
   refine ⟨qnk hg,fun O w0 w β vs hH hG ha cs => ?_⟩
   have hB:BaseOK H.length ⟨c.P,c.glob,O,w0,cs,f,β⟩:=⟨hH.bound,hgl⟩
   have hend:∀ m v H',Steps c.P (lone (Frame.enter c.P f vs.toArray .normal) cs w) m->D v H'->DoneRel ⟨c.P,c.glob,O,w0,cs,f,β⟩ v H' m ->
     ∃ e w' b,Came c.P O w0 β D e w'/\Comes c.P (lone (Frame.enter c.P f vs.toArray .normal) cs w) (lone b cs w') e/\b.fn=f/\b.leaving c.P w' e:=by
    intro m v H' hst hD hdone
    obtain ⟨β',fr,x,w',rfl,hfn,hleave,hv,hH',hG'⟩:=hdone.ex
    exact ⟨.returned x,w',fr,⟨v,H',x,β',rfl,hD,hG'.fix,hv,hH'⟩,hst,hfn,hleave⟩
   obtain ⟨m1,hst,⟨v,H',hD,hdone⟩ | ⟨s,hS,hM1⟩⟩:=q4n (B:=⟨c.P,c.glob,O,w0,cs,f,β⟩) (hc.at st0) rfl rfl n0 _ _ (qis (c:=c) hH hG ha hg cs) h0
   . exact hend m1 v H' hst hD hdone
   . obtain ⟨a,J,ha',hM2⟩:=hS _ _ hB hM1
     obtain ⟨m2,v,H',hst2,hD,hdone⟩:=q46 hc hB rfl rfl C OK μ hs (μ a+1) a J m1 (Nat.lt_succ_self _) ha' hM2
     exact hend m2 v H' (hst.trans hst2) hD hdone
end
noncomputable section
variable {α:Type}
def seeT (vs:List SV):List (Option SV)->List (Option SV) :=
 List.rec (motive:=fun _=>List (Option SV)->List (Option SV)) (fun _=>[]) (fun v _ ih T=>List.rec (motive:=fun _=>List (Option SV)) (some v::ih []) (fun o r _=>optC o none (fun _=>some v)::ih r) T) vs
def seeF (s:SF) (p:SP):SP:=⟨s.fn,seeT s.tmps p.tmps,s.todo,s.defers,s.roundOf⟩
def qgw (ss:List SF):List SP->List SP :=
 List.rec (motive:=fun _=>List SP->List SP) (fun _=>[]) (fun s _ ih ps=>List.rec (motive:=fun _=>List SP) (⟨s.fn,seeT s.tmps [],s.todo,s.defers,s.roundOf⟩::ih []) (fun p r _=>seeF s p::ih r) ps) ss
def seeL (e:SO) (T:List (Option SV)):HP:=SO.rec (motive:=fun _=>HP) (fun c w el=>.ent (.own c w el)) (fun c=>.ent (.row c)) (fun s p f T0 ps a b d=>.loop s p f (seeT T0 T) ps a b d) (fun ds=>.ent (.deferred ds)) (.ent .gone) (fun o=>.ent (.obj o)) e
def qos (e:SO):Bool:=SO.rec (motive:=fun _=>Bool) (fun _ _ _=>false) (fun _=>false) (fun _ _ _ _ _ _ _ _=>false) (fun _=>false) true (fun _=>false) e
def seeE (e:Option SO) (E:HP):Option HP:=HP.rec (motive:=fun _=>Option HP) (fun E0=>boolC (qos E0) (some (.ent .gone)) (optC e none fun e=>some (.ent e))) (fun _ _ _ T _ _ _ _=>optC e none fun e=>some (seeL e T)) E
def qy3 (H:List SO) (names:List Nat):List HP->List (Option HP) :=
 List.rec (motive:=fun _=>List HP->List (Option HP)) (fun _=>[]) (fun n _ ih Es=>List.rec (motive:=fun _=>List (Option HP)) [] (fun E r _=>seeE (nth H n) E::ih r) Es) names
abbrev Seen:=List SP × Nat × List (Option HP)
def qvi (M:Cut) (names:List Nat) (s:SS):Seen:=(qgw s.frames M.frames,lenN s.heap,qy3 s.heap names M.heap)
def renT (f:Nat->Nat) (T:List (Option SV)):List (Option SV):=mapN (fun o=>optC o none fun v=>some (v.ren f)) T
def SP.ren (f:Nat->Nat) (p:SP):SP:=⟨p.fn,renT f p.tmps,mapN (SItem.ren f) p.todo,mapN (SD.ren f) p.defers,optC p.roundOf none fun n=>some (f n)⟩
def HP.ren (f:Nat->Nat) (E:HP):HP :=
 HP.rec (motive:=fun _=>HP) (fun e=>SO.rec (motive:=fun _=>HP) (fun c w el=>.ent (.own (c.ren f) w el)) (fun c=>.ent (.row (c.ren f))) (fun s p g T ps a b d=>.ent (.loop s p g T ps a b d)) (fun ds=>.ent (.deferred (optC ds none fun l=>some (mapN (SD.ren f) l)))) (.ent .gone) (fun o=>.ent (.obj (o.ren f))) e)
  (fun s p g T ps a b d=>.loop s p g (renT f T) ps a b (f d)) E
def qqa (names:List Nat) (N:Nat) (C:Cut):Seen:=(mapN (SP.ren (qbb names N)) C.frames,N,mapN (fun E=>some (E.ren (qbb names N))) C.heap)
def ImpT (f:Nat->Nat):List (Option SV)->List (Option SV)->Prop
 | some v::vs,some u::us=>v.Imp (u.ren f)/\ImpT f vs us
 | none::vs,none::us=>ImpT f vs us
 | [],[]=>True
 | _,_=>False
structure ImpF (f:Nat->Nat) (s p:SP):Prop where
 fn:s.fn=p.fn
 tmps:ImpT f s.tmps p.tmps
 todo:s.todo=p.todo.map (SItem.ren f)
 defers:s.defers=p.defers.map (SD.ren f)
 roundOf:s.roundOf=p.roundOf.map f
def q6g (f:Nat->Nat):List SP->List SP->Prop
 | s::ss,p::ps=>ImpF f s p/\q6g f ss ps
 | [],[]=>True
 | _,_=>False
def ImpE (f:Nat->Nat) (e:Option HP) (E:HP):Prop :=
 match E with
 | .ent (.own c w el)=>∃ c0,e=some (.ent (.own c0 w el))/\c0.Imp (c.ren f)
 | .ent (.row c)=>∃ c0,e=some (.ent (.row c0))/\c0.Imp (c.ren f)
 | .ent (.deferred ds)=>e=some (.ent (.deferred (ds.map (List.map (SD.ren f)))))
 | .ent (.obj o)=>∃ o0,e=some (.ent (.obj o0))/\o0.Imp (o.ren f)
 | .ent .gone=>True
 | .ent (.loop ..)=>False
 | .loop s p g T ps a b d=>∃ T0,e=some (.loop s p g T0 ps a b (f d))/\ImpT f T0 T
def qwi (f:Nat->Nat):List (Option HP)->List HP->Prop
 | e::es,E::Es=>ImpE f e E/\qwi f es Es
 | [],[]=>True
 | _,_=>False
theorem qnh {f:Nat->Nat}:∀ {vs:List SV} {Tm T:List (Option SV)},ImpT f (seeT vs Tm) T->GenT f vs T
 | [],_,[],_=>trivial
 | [],_,_::_,h=>by cases h
 | v::vs,[],T,h=>by
   have h:ImpT f (some v::seeT vs []) T:=h
   cases T with
   | nil=>exact h.elim
   | cons u us=>cases u with
     | none=>exact h.elim
     | some u=>exact ⟨h.1,qnh h.2⟩
 | v::vs,o::Tm,T,h=>by
   have h:ImpT f (optC o none (fun _=>some v)::seeT vs Tm) T:=h
   cases T with
   | nil=>cases o <;> exact h.elim
   | cons u us =>
     cases o with
     | none=>cases u with
       | none=>exact qnh (Tm:=Tm) (T:=us) h
       | some u=>exact h.elim
     | some o=>cases u with
       | none=>exact h.elim
       | some u=>exact ⟨h.1,qnh (Tm:=Tm) (T:=us) h.2⟩
theorem q7n {f:Nat->Nat}:∀ {ss:List SF} {pm ps:List SP},q6g f (qgw ss pm) ps->qfw f ss ps
 | [],_,[],_=>trivial
 | [],_,_::_,h=>by cases h
 | s::ss,[],ps,h=>by
   have h:q6g f (⟨s.fn,seeT s.tmps [],s.todo,s.defers,s.roundOf⟩::qgw ss []) ps:=h
   cases ps with
   | nil=>exact h.elim
   | cons p ps =>
     obtain ⟨⟨h1,h2,h3,h4,h5⟩,hr⟩:=h
     exact ⟨⟨h1,qnh h2,h3,h4,h5⟩,q7n hr⟩
 | s::ss,q::pm,ps,h=>by
   have h:q6g f (seeF s q::qgw ss pm) ps:=h
   cases ps with
   | nil=>exact h.elim
   | cons p ps =>
     obtain ⟨⟨h1,h2,h3,h4,h5⟩,hr⟩:=h
     exact ⟨⟨h1,qnh h2,h3,h4,h5⟩,q7n hr⟩
theorem qx9 {f:Nat->Nat} {e:Option SO} {Em E:HP} (h:ImpE f (seeE e Em) E):GenE f e E:=by
 have hent:∀ {e:Option SO} {e0:SO},e0≠.gone->(∀ s p g T ps a b d,e0≠.loop s p g T ps a b d)->seeE e Em=some (.ent e0)->e=some e0:=by
  intro e e0 hng hnl h
  cases Em with
  | ent Em =>
    have h:boolC (qos Em) (some (.ent .gone)) (optC e none fun e=>some (HP.ent e))=some (.ent e0):=h
    cases hb:qos Em with
    | true=>rw [hb] at h; exact absurd (HP.ent.inj (Option.some.inj h)).symm hng
    | false =>
      rw [hb] at h
      cases e with
      | none=>cases h
      | some e=>rw [(HP.ent.inj (Option.some.inj h))]
  | loop s p g T ps a b d =>
    cases e with
    | none=>cases h
    | some e =>
      have h:some (seeL e T)=some (HP.ent e0):=h
      have h:=Option.some.inj h
      cases e with
      | loop=>cases h
      | gone=>exact absurd (HP.ent.inj h).symm hng
      | own=>rw [← HP.ent.inj h]
      | row=>rw [← HP.ent.inj h]
      | deferred=>rw [← HP.ent.inj h]
      | obj=>rw [← HP.ent.inj h]
 cases E with
 | ent E =>
   cases E with
   | own c w el=>obtain ⟨c0,h1,h2⟩:=h; exact ⟨c0,hent (by simp) (by simp) h1,h2⟩
   | row c=>obtain ⟨c0,h1,h2⟩:=h; exact ⟨c0,hent (by simp) (by simp) h1,h2⟩
   | deferred ds=>exact hent (by simp) (by simp) h
   | obj o=>obtain ⟨o0,h1,h2⟩:=h; exact ⟨o0,hent (by simp) (by simp) h1,h2⟩
   | gone=>trivial
   | loop=>exact h.elim
 | loop s p g T ps a b d =>
   obtain ⟨T0,h1,h2⟩:=h
   cases Em with
   | ent Em =>
     have h:boolC (qos Em) (some (.ent .gone)) (optC e none fun e=>some (HP.ent e))=some (.loop s p g T0 ps a b (f d)):=h1
     cases hb:qos Em with
     | true=>rw [hb] at h; cases h
     | false=>rw [hb] at h; cases e <;> cases h
   | loop s' p' g' Tm ps' a' b' d' =>
     cases e with
     | none=>cases h1
     | some e =>
       have h1:some (seeL e Tm)=some (HP.loop s p g T0 ps a b (f d)):=h1
       have h1:=Option.some.inj h1
       cases e with
       | loop s1 p1 g1 T1 ps1 a1 b1 d1 =>
         have h1:HP.loop s1 p1 g1 (seeT T1 Tm) ps1 a1 b1 d1=.loop s p g T0 ps a b (f d):=h1
         injection h1 with e1 e2 e3 e4 e5 e6 e7 e8
         subst e1 e2 e3 e4 e5 e6 e7 e8
         exact ⟨T1,rfl,qnh h2⟩
       | own=>cases h1
       | row=>cases h1
       | deferred=>cases h1
       | gone=>cases h1
       | obj=>cases h1
theorem q3u {f:Nat->Nat} {H:List SO}:∀ {names:List Nat} {Em Es:List HP},qwi f (qy3 H names Em) Es->Em.length=names.length->∀ (j:Nat) (E:HP) (n:Nat),Es[j]? = some E->names[j]? = some n->GenE f H[n]? E
 | [],_,[],_,_,_,_,_,h,_=>by simp at h
 | [],_,_::_,h,_,_,_,_,_,_=>h.elim
 | n::names,[],_,_,hl,_,_,_,_,_=>by simp at hl
 | n::names,Em::Ems,Es,h,hl,j,E,m,hE,hm=>by
   have h:qwi f (seeE (nth H n) Em::qy3 H names Ems) Es:=h
   cases Es with
   | nil=>exact h.elim
   | cons E0 Es =>
     cases j with
     | zero =>
       simp at hE hm
       subst hE hm
       have:=qx9 h.1
       rwa [qca] at this
     | succ j=>exact q3u h.2 (by simpa using hl) j E m (by simpa using hE) (by simpa using hm)
theorem qim (f:Nat->Nat):∀ T:List (Option SV),ImpT f (renT f T) T
 | []=>trivial
 | some _::T=>⟨.refl _,qim f T⟩
 | none::T=>qim f T
theorem q8j (f:Nat->Nat):∀ ps:List SP,q6g f (mapN (SP.ren f) ps) ps
 | []=>trivial
 | p::ps=>⟨⟨rfl,qim f _,by show mapN _ _=_; rw [qja],by show mapN _ _=_; rw [qja],by show optC p.roundOf none _=_; cases p.roundOf <;> rfl⟩,q8j f ps⟩
theorem qy9 (f:Nat->Nat) (E:HP) (h:∀ s p g T ps a b d,E≠.ent (.loop s p g T ps a b d)):ImpE f (some (E.ren f)) E:=by
 cases E with
 | ent e =>
   cases e with
   | own c w el=>exact ⟨_,rfl,.refl _⟩
   | row c=>exact ⟨_,rfl,.refl _⟩
   | deferred ds =>
     show some (HP.ent (.deferred (optC ds none fun l=>some (mapN (SD.ren f) l))))=_
     cases ds with
     | none=>rfl
     | some l=>rw [optC_some,qja]; rfl
   | gone=>trivial
   | obj o=>exact ⟨_,rfl,fun _ _ h=>h⟩
   | loop=>exact absurd rfl (h _ _ _ _ _ _ _ _)
 | loop s p g T ps a b d=>exact ⟨_,rfl,qim f T⟩
def qwa (E:HP):Bool:=HP.rec (motive:=fun _=>Bool) (fun e=>SO.rec (motive:=fun _=>Bool) (fun _ _ _=>true) (fun _=>true) (fun _ _ _ _ _ _ _ _=>false) (fun _=>true) true (fun _=>true) e) (fun _ _ _ _ _ _ _ _=>true) E
theorem q9j (f:Nat->Nat):∀ Es:List HP,allN qwa Es=true->qwi f (mapN (fun E=>some (E.ren f)) Es) Es
 | [],_=>trivial
 | E::Es,h=>by
   have h':=q2j _ _ h
   refine ⟨qy9 f E fun s p g T ps a b d he => ?_,q9j f Es ?_⟩
   . have:=h' E List.mem_cons_self
     rw [he] at this; cases this
   . have h:boolC (qwa E) (allN qwa Es) false=true:=h
     cases hb:qwa E with
     | true=>rw [hb] at h; exact h
     | false=>rw [hb] at h; cases h
def qfy (l:List Nat):Bool:=List.rec (motive:=fun _=>Bool) true (fun a r ih=>boolC (memN a r) false ih) l
def qz3 (l:List Nat):Nat->Nat->Bool:=List.rec (motive:=fun _=>Nat->Nat->Bool) (fun k i=>Nat.ble k i) (fun a _ ih k i=>boolC (Nat.ble k i) true (boolC (Nat.beq a i) (ih k (Nat.succ i)) false)) l
def q5a (k0:Nat) (names:List Nat) (M C:Cut):Bool:=boolC (qfy names) (boolC (qz3 names k0 0) (boolC (Nat.beq (lenN names) (lenN C.heap)) (Nat.beq (lenN names) (lenN M.heap)) false) false) false
theorem qyp:∀ l:List Nat,qfy l=true->l.Nodup
 | [],_=>by simp
 | a::r,h=>by
   have h:boolC (memN a r) false (qfy r)=true:=h
   cases hm:memN a r with
   | true=>rw [hm] at h; cases h
   | false =>
     rw [hm] at h
     refine List.nodup_cons.2 ⟨fun hin => ?_,qyp r h⟩
     rw [memN_iff.2 hin] at hm; cases hm
theorem qps:∀ (l:List Nat) (k i:Nat),qz3 l k i=true->∀ j,i+j<k->l[j]? = some (i+j)
 | [],k,i,h,j,hj=>by
   have:=Nat.le_of_ble_eq_true (show Nat.ble k i=true from h)
   omega
 | a::r,k,i,h,j,hj=>by
   have h:boolC (Nat.ble k i) true (boolC (Nat.beq a i) (qz3 r k (i+1)) false)=true:=h
   cases hk:Nat.ble k i with
   | true=>have:=Nat.le_of_ble_eq_true hk; omega
   | false =>
     rw [hk,boolC_false] at h
     cases ha:Nat.beq a i with
     | false=>rw [ha] at h; cases h
     | true =>
       rw [ha] at h
       have:=Nat.eq_of_beq_eq_true ha
       subst this
       cases j with
       | zero=>rfl
       | succ j =>
         have:=qps r k (a+1) h j (by omega)
         rw [List.getElem?_cons_succ,this]
         congr 1; omega
theorem q7g {b:Bool} {t:Bool} (h:boolC b t false=true):b=true/\t=true:=by cases b <;> first | exact ⟨rfl,h⟩ | cases h
theorem qsq {k0:Nat} {s:SS} {C M:Cut} {names:List Nat} {F:List SP} {N:Nat} {es:List (Option HP)} (hv:qvi M names s=(F,N,es)) (hn:q5a k0 names M C=true) (hF:q6g (qbb names N) F C.frames) (hE:qwi (qbb names N) es C.heap):Gen k0 s C names:=by
 obtain ⟨h1,h2⟩:=Prod.mk.inj (show (_,_,_)=(F,N,es) from hv)
 obtain ⟨h2,h3⟩:=Prod.mk.inj h2
 rw [qha] at h2
 obtain ⟨n1,n2⟩:=q7g hn
 obtain ⟨n2,n3⟩:=q7g n2
 obtain ⟨n3,n4⟩:=q7g n3
 have l1:=Nat.eq_of_beq_eq_true n3
 have l2:=Nat.eq_of_beq_eq_true n4
 rw [qha,qha] at l1 l2
 subst h2
 refine ⟨fun j hj => ?_,qyp _ n1,l1,?_,fun j E hj => ?_⟩
 . have:=qps names k0 0 n2 j (by omega)
   rwa [Nat.zero_add] at this
 . rw [← h1] at hF; exact q7n hF
 . rw [← h3] at hE
   have hlt:j<names.length:=by rw [l1]; exact (List.getElem?_eq_some_iff.1 hj).1
   exact q3u hE l2.symm j E _ hj (q2u hlt)
theorem qz9 {k0:Nat} {s:SS} {C M:Cut} {names:List Nat} {N:Nat} (hv:qvi M names s=qqa names N C) (hn:boolC (q5a k0 names M C) (allN qwa C.heap) false=true):Gen k0 s C names :=
 qsq hv (q7g hn).1 (q8j _ _) (q9j _ _ (q7g hn).2)
def qpf (i:Nat) (E:HP) (V:Seen):Seen:=(V.1,V.2.1,setN V.2.2 i (some E))
theorem q8n {f:Nat->Nat}:∀ {es:List (Option HP)} {Es:List HP} (i:Nat) {E:HP},qwi f es Es->(∀ E0,Es[i]? = some E0->ImpE f (some E) E0)->qwi f (setN es i (some E)) Es
 | [],[],_,_,_,_=>trivial
 | e::es,E0::Es,0,E,h,h0=>⟨h0 E0 rfl,h.2⟩
 | e::es,E0::Es,i+1,E,h,h0=>⟨h.1,q8n i h.2 fun E1 h1=>h0 E1 (by simpa using h1)⟩
 | [],_::_,_,_,h,_=>h.elim
 | _::_,[],_,_,h,_=>h.elim
theorem jce {k0:Nat} {s:SS} {C M:Cut} {names:List Nat} {N i:Nat} {E:HP} (hv:qvi M names s=qpf i E (qqa names N C)) (hn:boolC (q5a k0 names M C) (allN qwa C.heap) false=true) (hE:∀ E0,C.heap[i]? = some E0->ImpE (qbb names N) (some E) E0):Gen k0 s C names :=
 qsq hv (q7g hn).1 (q8j _ _) (q8n i (q9j _ _ (q7g hn).2) hE)
def setF (p:SP) (j:Nat) (v:SV):SP:=⟨p.fn,setN p.tmps j (some v),p.todo,p.defers,p.roundOf⟩
def q8g (i j:Nat) (v:SV) (V:Seen):Seen:=(optC (nth V.1 i) V.1 fun p=>setN V.1 i (setF p j v),V.2.1,V.2.2)
def qeb (ms:List (Nat × Nat × SV)) (es:List (Nat × HP)) (V:Seen):Seen :=
 List.rec (motive:=fun _=>Seen) (List.rec (motive:=fun _=>Seen) V (fun m _ ih=>q8g m.1 m.2.1 m.2.2 ih) ms) (fun e _ ih=>qpf e.1 e.2 ih) es
theorem qtq {f:Nat->Nat}:∀ {vs us:List (Option SV)} (j:Nat) {v:SV},ImpT f vs us->(∀ u,us[j]? = some u->∃ w,u=some w/\v.Imp (w.ren f))->ImpT f (setN vs j (some v)) us
 | some _::vs,some u::us,0,v,h,h0=>let ⟨w,e,hw⟩:=h0 _ rfl; ⟨by cases e; exact hw,h.2⟩
 | none::vs,none::us,0,v,h,h0=>let ⟨_,e,_⟩:=h0 _ rfl; by cases e
 | some _::vs,some u::us,j+1,v,h,h0=>⟨h.1,qtq j h.2 fun w hw=>h0 w (by simpa using hw)⟩
 | none::vs,none::us,j+1,v,h,h0=>qtq (vs:=vs) (us:=us) j h fun w hw=>h0 w (by simpa using hw)
 | [],[],_,_,_,_=>trivial
 | some _::_,none::_,_,_,h,_=>h.elim
 | none::_,some _::_,_,_,h,_=>h.elim
 | [],_::_,_,_,h,_=>h.elim
 | some _::_,[],_,_,h,_=>False.elim h
 | none::_,[],_,_,h,_=>False.elim h
theorem q4u {f:Nat->Nat}:∀ {ss ps:List SP} (i j:Nat) {v:SV} {s:SP},q6g f ss ps->ss[i]? = some s->(∀ p u,ps[i]? = some p->p.tmps[j]? = some u->∃ w,u=some w/\v.Imp (w.ren f))->q6g f (setN ss i (setF s j v)) ps
 | s0::ss,p::ps,0,j,v,s,h,hs,h0=>by
   simp at hs; subst hs
   obtain ⟨⟨h1,h2,h3,h4,h5⟩,hr⟩:=h
   exact ⟨⟨h1,qtq j h2 fun u hu=>h0 p u rfl hu,h3,h4,h5⟩,hr⟩
 | s0::ss,p::ps,i+1,j,v,s,h,hs,h0=>⟨h.1,q4u i j h.2 (by simpa using hs) fun q u hq hu=>h0 q u (by simpa using hq) hu⟩
 | [],_,_,_,_,_,_,hs,_=>by simp at hs
 | _::_,[],_,_,_,_,h,_,_=>h.elim
theorem qy0 {k0:Nat} {s:SS} {C M:Cut} {names:List Nat} {N:Nat} (ms:List (Nat × Nat × SV)) (es:List (Nat × HP)) (hv:qvi M names s=qeb ms es (qqa names N C)) (hn:boolC (q5a k0 names M C) (allN qwa C.heap) false=true)
  (hT:∀ m∈ms,∀ p u,C.frames[m.1]? = some p->p.tmps[m.2.1]? = some u->∃ w,u=some w/\m.2.2.Imp (w.ren (qbb names N))) (hE:∀ e∈es,∀ E0,C.heap[e.1]? = some E0->ImpE (qbb names N) (some e.2) E0):Gen k0 s C names:=by
 have key:∀ ms:List (Nat × Nat × SV),(∀ m∈ms,∀ p u,C.frames[m.1]? = some p->p.tmps[m.2.1]? = some u->∃ w,u=some w/\m.2.2.Imp (w.ren (qbb names N))) ->
   q6g (qbb names N) (List.rec (motive:=fun _=>Seen) (qqa names N C) (fun m _ ih=>q8g m.1 m.2.1 m.2.2 ih) ms:Seen).1 C.frames/\(List.rec (motive:=fun _=>Seen) (qqa names N C) (fun m _ ih=>q8g m.1 m.2.1 m.2.2 ih) ms:Seen).2=(qqa names N C).2:=by
  intro ms
  induction ms with
  | nil=>intro _; exact ⟨q8j _ _,rfl⟩
  | cons m ms ih =>
    intro h
    obtain ⟨h1,h2⟩:=ih fun x hx=>h x (List.mem_cons_of_mem _ hx)
    generalize hV:(List.rec (motive:=fun _=>Seen) (qqa names N C) (fun m _ ih=>q8g m.1 m.2.1 m.2.2 ih) ms:Seen)=V at h1 h2
    show q6g _ (q8g m.1 m.2.1 m.2.2 (List.rec (motive:=fun _=>Seen) (qqa names N C) (fun m _ ih=>q8g m.1 m.2.1 m.2.2 ih) ms:Seen)).1 _/\(q8g m.1 m.2.1 m.2.2 (List.rec (motive:=fun _=>Seen) (qqa names N C) (fun m _ ih=>q8g m.1 m.2.1 m.2.2 ih) ms:Seen)).2=_
    rw [hV]
    refine ⟨?_,h2⟩
    show q6g _ (optC (nth V.1 m.1) V.1 fun p=>setN V.1 m.1 (setF p m.2.1 m.2.2)) _
    cases hp:nth V.1 m.1 with
    | none=>exact h1
    | some p =>
      rw [qca] at hp
      exact q4u m.1 m.2.1 h1 hp fun q u hq hu=>h m List.mem_cons_self q u hq hu
 obtain ⟨k1,k2⟩:=key ms hT
 have key2:∀ es:List (Nat × HP),(∀ e∈es,∀ E0,C.heap[e.1]? = some E0->ImpE (qbb names N) (some e.2) E0)->∀ V:Seen,V.2=(qqa names N C).2 ->
   (List.rec (motive:=fun _=>Seen) V (fun e _ ih=>qpf e.1 e.2 ih) es:Seen).1=V.1/\(List.rec (motive:=fun _=>Seen) V (fun e _ ih=>qpf e.1 e.2 ih) es:Seen).2.1=N/\qwi (qbb names N) (List.rec (motive:=fun _=>Seen) V (fun e _ ih=>qpf e.1 e.2 ih) es:Seen).2.2 C.heap:=by
  intro es
  induction es with
  | nil =>
    intro _ V hV
    refine ⟨rfl,?_,?_⟩
    . show V.2.1=N; rw [hV]; rfl
    . show qwi _ V.2.2 _; rw [hV]; exact q9j _ _ (q7g hn).2
  | cons e es ih =>
    intro h V hV
    obtain ⟨h1,h2,h3⟩:=ih (fun x hx=>h x (List.mem_cons_of_mem _ hx)) V hV
    exact ⟨h1,h2,q8n e.1 h3 (h e List.mem_cons_self)⟩
 obtain ⟨j1,j2,j3⟩:=key2 es hE _ k2
 unfold qeb at hv
 generalize (List.rec (motive:=fun _=>Seen) (List.rec (motive:=fun _=>Seen) (qqa names N C) (fun m _ ih=>q8g m.1 m.2.1 m.2.2 ih) ms) (fun e _ ih=>qpf e.1 e.2 ih) es:Seen)=V at hv j1 j2 j3
 obtain ⟨F,N',es'⟩:=V
 have j2:N'=N:=j2
 subst j2
 exact qsq hv (q7g hn).1 (by rw [show F=_ from j1]; exact k1) j3
abbrev OutL:=List Prop × Option ((SV × List (Option SO)) ⊕ Seen)
def outL (js:List Nat) (M:Cut) (names:List Nat) (t:Tree):List Bool->(Nat->Nat->Nat)->OutL :=
 Tree.rec (motive:=fun _=>List Bool->(Nat->Nat->Nat)->OutL) (fun v H _ _=>([],some (.inl (v,mapN (fun j=>nth H j) js)))) (fun s _ _=>([],some (.inr (qvi M names s)))) (fun p _ ih ds z=>(p::(ih ds z).1,(ih ds z).2))
  (fun b _ _ iht ihf ds z=>List.rec (motive:=fun _=>OutL) ([],none) (fun d r _=>((b=d)::(boolC d (iht r z) (ihf r z)).1,(boolC d (iht r z) (ihf r z)).2)) ds) (fun _ _ _=>([],none)) (fun _ ih ds z=>ih (z 0) ds fun i=>z (i+1)) t
theorem q4o {js:List Nat} {M:Cut} {names:List Nat} {t:Tree} {ds:List Bool} {ps:(Nat->Nat->Nat)->List Prop} {r:(Nat->Nat->Nat)->(SV × List (Option SO)) ⊕ Seen} (h:∀ z,outL js M names t ds z=(ps z,some (r z))) (hp:∀ z,∀ p∈ps z,p) {D:SV->List SO->Prop} {S:SS->Prop}
  (hD:∀ z v es,r z=.inl (v,es)->∀ H:List SO,js.map (fun j=>H[j]?)=es->D v H) (hS:∀ z V,r z=.inr V->∀ s,qvi M names s=V->S s):t.Ob D S:=by
 have z0:Nat->Nat->Nat:=fun _ _=>0
 induction t generalizing ps r ds with
 | done v' H =>
   have h':([],some (.inl (v',mapN (fun j=>nth H j) js)))=(ps z0,some (r z0)):=h z0
   have h1:=Option.some.inj (Prod.mk.inj h').2
   refine hD z0 v' _ h1.symm H ?_
   rw [qja]
   exact List.map_congr_left fun j _=>(qca H j).symm
 | stop s =>
   have h':([],some (.inr (qvi M names s)))=(ps z0,some (r z0)):=h z0
   have h1:=Option.some.inj (Prod.mk.inj h').2
   exact hS z0 _ h1.symm s rfl
 | need p t ih =>
   have h':∀ z,(p::(outL js M names t ds z).1,(outL js M names t ds z).2)=(ps z,some (r z)):=h
   refine ⟨?_,ih (ds:=ds) (ps:=fun z=>(outL js M names t ds z).1) (r:=r) (fun z=>by rw [← (Prod.mk.inj (h' z)).2]) (fun z q hq=>hp z q ?_) hD hS⟩
   . have:=(Prod.mk.inj (h' z0)).1
     exact hp z0 p (by rw [← this]; exact List.mem_cons_self)
   . rw [← (Prod.mk.inj (h' z)).1]; exact List.mem_cons_of_mem _ hq
 | fork b t f iht ihf =>
   cases ds with
   | nil=>cases (Prod.mk.inj (show ([],none)=(ps z0,some (r z0)) from h z0)).2
   | cons d rs =>
     have h':∀ z,((b=d)::(boolC d (outL js M names t rs z) (outL js M names f rs z)).1,(boolC d (outL js M names t rs z) (outL js M names f rs z)).2)=(ps z,some (r z)):=h
     have hb:b=d:=hp z0 _ (by rw [← (Prod.mk.inj (h' z0)).1]; exact List.mem_cons_self)
     have hq:∀ z,∀ q∈(boolC d (outL js M names t rs z) (outL js M names f rs z)).1,q:=fun z q hq=>hp z q (by rw [← (Prod.mk.inj (h' z)).1]; exact List.mem_cons_of_mem _ hq)
     cases d with
     | true=>exact ⟨fun _=>iht (ds:=rs) (ps:=fun z=>(outL js M names t rs z).1) (r:=r) (fun z=>by rw [← (Prod.mk.inj (h' z)).2]; rfl) hq hD hS,fun hf=>by rw [hf] at hb; cases hb⟩
     | false=>exact ⟨fun ht=>(by rw [ht] at hb; cases hb),fun _=>ihf (ds:=rs) (ps:=fun z=>(outL js M names f rs z).1) (r:=r) (fun z=>by rw [← (Prod.mk.inj (h' z)).2]; rfl) hq hD hS⟩
 | stuck=>cases (Prod.mk.inj (show ([],none)=(ps z0,some (r z0)) from h z0)).2
 | any k ih =>
   have h':∀ z,outL js M names (k (z 0)) ds (fun i=>z (i+1))=(ps z,some (r z)):=h
   intro y
   let c:(Nat->Nat->Nat)->Nat->Nat->Nat:=fun z i=>Nat.rec (motive:=fun _=>Nat->Nat) y (fun j _=>z j) i
   exact ih y (ds:=ds) (ps:=fun z=>ps (c z)) (r:=fun z=>r (c z)) (fun z=>h' (c z)) (fun z=>hp (c z)) (fun z=>hD (c z)) (fun z=>hS (c z))
theorem q5u {A:Type} {k0:Nat} {C:A->Cut} {Q:A->Prop} {js:List Nat} {M:Cut} {names:List Nat} {t:Tree} {ds:List Bool} {ps:List Prop} {N:Nat} {D:SV->List SO->Prop} (a:A) (hq:Q a)
  (h:∀ z,outL js M names t ds z=(ps,some (.inr (qqa names N (C a))))) (hn:boolC (q5a k0 names M (C a)) (allN qwa (C a).heap) false=true) (hp:∀ p∈ps,p):t.Ob D (qui k0 C Q) :=
 q4o h (fun _=>hp) (fun _ v es h=>by cases h) fun _ V h s hv=>qhm a hq names (qz9 (N:=N) (by cases h; exact hv) hn)
theorem q03 {A:Type} {k0:Nat} {C:A->Cut} {Q:A->Prop} {js:List Nat} {M:Cut} {names:List Nat} {t:Tree} {ds:List Bool} {ps:List Prop} {N i:Nat} {E:HP} {D:SV->List SO->Prop} (a:A) (hq:Q a)
  (h:∀ z,outL js M names t ds z=(ps,some (.inr (qpf i E (qqa names N (C a)))))) (hn:boolC (q5a k0 names M (C a)) (allN qwa (C a).heap) false=true) (hE:∀ E0,(C a).heap[i]? = some E0->ImpE (qbb names N) (some E) E0) (hp:∀ p∈ps,p):t.Ob D (qui k0 C Q) :=
 q4o h (fun _=>hp) (fun _ v es h=>by cases h) fun _ V h s hv=>qhm a hq names (jce (N:=N) (by cases h; exact hv) hn hE)
theorem qqs {A:Type} {k0:Nat} {C:A->Cut} {Q:A->Prop} {js:List Nat} {M:Cut} {names:List Nat} {t:Tree} {ds:List Bool} {ps:List Prop} {N:Nat} {ms:List (Nat × Nat × SV)} {es:List (Nat × HP)} {D:SV->List SO->Prop} (a:A) (hq:Q a)
  (h:∀ z,outL js M names t ds z=(ps,some (.inr (qeb ms es (qqa names N (C a)))))) (hn:boolC (q5a k0 names M (C a)) (allN qwa (C a).heap) false=true)
  (hT:∀ m∈ms,∀ p u,(C a).frames[m.1]? = some p->p.tmps[m.2.1]? = some u->∃ w,u=some w/\m.2.2.Imp (w.ren (qbb names N))) (hE:∀ e∈es,∀ E0,(C a).heap[e.1]? = some E0->ImpE (qbb names N) (some e.2) E0) (hp:∀ p∈ps,p):t.Ob D (qui k0 C Q) :=
 q4o h (fun _=>hp) (fun _ v es h=>by cases h) fun _ V h s hv=>qhm a hq names (qy0 (N:=N) ms es (by cases h; exact hv) hn hT hE)
theorem qgy {js:List Nat} {M:Cut} {names:List Nat} {t:Tree} {ds:List Bool} {ps:List Prop} {v:SV} {es:List (Option SO)} {D:SV->List SO->Prop} {S:SS->Prop}
  (h:∀ z,outL js M names t ds z=(ps,some (.inl (v,es)))) (hp:∀ p∈ps,p) (hD:∀ H:List SO,js.map (fun j=>H[j]?)=es->D v H):t.Ob D S :=
 q4o h (fun _=>hp) (fun _ v' es' h=>by cases h; exact hD) fun _ V h=>by cases h
def qbd {A:Type} (c:Cfg) (k0:Nat) (C:A->Cut) (Q:A->Prop) (D:SV->List SO->Prop) (s:SS):Prop:=∃ st n,(sim1 (c.at st) n s).Ob D (qui k0 C Q)
theorem qtc {A:Type} {c:Cfg} {k0:Nat} {C:A->Cut} {Q:A->Prop} {D:SV->List SO->Prop} {s:SS} (st:Option (Nat × Nat)) (n:Nat) {M:Cut} {names:List Nat} {ds:List Bool} {ps:List Prop} {N:Nat} (a:A) (hq:Q a)
  (h:∀ z,outL [] M names (sim1 (c.at st) n s) ds z=(ps,some (.inr (qqa names N (C a))))) (hn:boolC (q5a k0 names M (C a)) (allN qwa (C a).heap) false=true) (hp:∀ p∈ps,p):qbd c k0 C Q D s:=⟨st,n,q5u a hq h hn hp⟩
theorem q7b {A:Type} {c:Cfg} {k0:Nat} {C:A->Cut} {Q:A->Prop} {D:SV->List SO->Prop} {s:SS} (st:Option (Nat × Nat)) (n:Nat) {M:Cut} {names js:List Nat} {ds:List Bool} {ps:List Prop} {v:SV} {es:List (Option SO)}
  (h:∀ z,outL js M names (sim1 (c.at st) n s) ds z=(ps,some (.inl (v,es)))) (hp:∀ p∈ps,p) (hD:∀ H:List SO,js.map (fun j=>H[j]?)=es->D v H):qbd c k0 C Q D s:=⟨st,n,qgy h hp hD⟩
theorem qfg {A:Type} {c:Cfg} {k0:Nat} {C:A->Cut} {Q:A->Prop} {D:SV->List SO->Prop} {s:SS} (st:Option (Nat × Nat)) (n:Nat) {M:Cut} {names:List Nat} {ds:List Bool} {ps:List Prop} {N:Nat} {ms:List (Nat × Nat × SV)} {es:List (Nat × HP)} (a:A) (hq:Q a)
  (h:∀ z,outL [] M names (sim1 (c.at st) n s) ds z=(ps,some (.inr (qeb ms es (qqa names N (C a)))))) (hn:boolC (q5a k0 names M (C a)) (allN qwa (C a).heap) false=true)
  (hT:∀ m∈ms,∀ p u,(C a).frames[m.1]? = some p->p.tmps[m.2.1]? = some u->∃ w,u=some w/\m.2.2.Imp (w.ren (qbb names N))) (hE:∀ e∈es,∀ E0,(C a).heap[e.1]? = some E0->ImpE (qbb names N) (some e.2) E0) (hp:∀ p∈ps,p):qbd c k0 C Q D s:=⟨st,n,qqs a hq h hn hT hE hp⟩
def q9n {A:Type} (c:Cfg) (k0:Nat) (C:A->Cut) (Q:A->Prop) (D:SV->List SO->Prop) (f:FuncId) (args:List SV) (H:List SO):Prop:=∃ st n,(qfa (c.at st) n f args H).Ob D (qui k0 C Q)
theorem q09 {A:Type} {c:Cfg} {k0:Nat} {C:A->Cut} {Q:A->Prop} {D:SV->List SO->Prop} {f:FuncId} {args:List SV} {H:List SO} (st:Option (Nat × Nat)) (n:Nat) {M:Cut} {names:List Nat} {ds:List Bool} {ps:List Prop} {N:Nat} (a:A) (hq:Q a)
  (h:∀ z,outL [] M names (qfa (c.at st) n f args H) ds z=(ps,some (.inr (qqa names N (C a))))) (hn:boolC (q5a k0 names M (C a)) (allN qwa (C a).heap) false=true) (hp:∀ p∈ps,p):q9n c k0 C Q D f args H:=⟨st,n,q5u a hq h hn hp⟩
theorem q66 {A:Type} {c:Cfg} {k0:Nat} {C:A->Cut} {Q:A->Prop} {D:SV->List SO->Prop} {f:FuncId} {args:List SV} {H:List SO} (st:Option (Nat × Nat)) (n:Nat) {M:Cut} {names:List Nat} {ds:List Bool} {ps:List Prop} {N i:Nat} {E:HP} (a:A) (hq:Q a)
  (h:∀ z,outL [] M names (qfa (c.at st) n f args H) ds z=(ps,some (.inr (qpf i E (qqa names N (C a)))))) (hn:boolC (q5a k0 names M (C a)) (allN qwa (C a).heap) false=true) (hE:∀ E0,(C a).heap[i]? = some E0->ImpE (qbb names N) (some E) E0) (hp:∀ p∈ps,p):q9n c k0 C Q D f args H:=⟨st,n,q03 a hq h hn hE hp⟩
theorem qwc {A:Type} {c:Cfg} {k0:Nat} {C:A->Cut} {Q:A->Prop} {D:SV->List SO->Prop} {f:FuncId} {args:List SV} {H:List SO} (st:Option (Nat × Nat)) (n:Nat) {M:Cut} {names:List Nat} {ds:List Bool} {ps:List Prop} {N:Nat} {ms:List (Nat × Nat × SV)} {es:List (Nat × HP)} (a:A) (hq:Q a)
  (h:∀ z,outL [] M names (qfa (c.at st) n f args H) ds z=(ps,some (.inr (qeb ms es (qqa names N (C a)))))) (hn:boolC (q5a k0 names M (C a)) (allN qwa (C a).heap) false=true)
  (hT:∀ m∈ms,∀ p u,(C a).frames[m.1]? = some p->p.tmps[m.2.1]? = some u->∃ w,u=some w/\m.2.2.Imp (w.ren (qbb names N))) (hE:∀ e∈es,∀ E0,(C a).heap[e.1]? = some E0->ImpE (qbb names N) (some e.2) E0) (hp:∀ p∈ps,p):q9n c k0 C Q D f args H:=⟨st,n,qqs a hq h hn hT hE hp⟩
theorem q6u {A:Type} {c:Cfg} {k0:Nat} {C:A->Cut} {Q:A->Prop} {D:SV->List SO->Prop} {f:FuncId} {args:List SV} {H:List SO} (st:Option (Nat × Nat)) (n:Nat) {M:Cut} {names js:List Nat} {ds:List Bool} {ps:List Prop} {v:SV} {es:List (Option SO)}
  (h:∀ z,outL js M names (qfa (c.at st) n f args H) ds z=(ps,some (.inl (v,es)))) (hp:∀ p∈ps,p) (hD:∀ H:List SO,js.map (fun j=>H[j]?)=es->D v H):q9n c k0 C Q D f args H:=⟨st,n,qgy h hp hD⟩
theorem quc {c:Cfg} (hc:CfgOK c) {A:Type} (C:A->Cut) (OK:A->Prop) (μ:A->Nat) {D:SV->List SO->Prop} {f:FuncId} {args:List SV} {H:List SO} (hgl:∀ g nm,c.glob g=some nm->nm<H.length)
  (h0:q9n c H.length C OK D f args H) (hs:∀ a,OK a->∀ J,qbd c H.length C (fun a'=>OK a'/\μ a'<μ a) D ((C a).fill J)):Runs c f args H D:=q56 hc C OK μ hgl h0 hs
def qpd (t:Tree):List Bool->SS :=
 Tree.rec (motive:=fun _=>List Bool->SS) (fun _ _ _=>⟨[],[]⟩) (fun s _=>s) (fun _ _ ih ds=>ih ds) (fun _ _ _ iht ihf ds=>List.rec (motive:=fun _=>SS) ⟨[],[]⟩ (fun d r _=>boolC d (iht r) (ihf r)) ds) (fun _ _=>⟨[],[]⟩) (fun _ ih ds=>ih (fun _=>0) ds) t
def juc (T:List (Option SV)) (l:List (Nat × SV)):List (Option SV):=List.rec (motive:=fun _=>List (Option SV)->List (Option SV)) (fun T=>T) (fun a _ ih T=>ih (setN T a.1 (some a.2))) l T
def jvc (s:SF) (l:List (Nat × SV)):SP:=⟨s.fn,juc (repN none (lenN s.tmps)) l,s.todo,s.defers,s.roundOf⟩
def qqd (ss:List SF):List (List (Nat × SV))->List SP:=List.rec (motive:=fun _=>List (List (Nat × SV))->List SP) (fun _=>[]) (fun s _ ih ls=>List.rec (motive:=fun _=>List SP) (jvc s []::ih []) (fun l r _=>jvc s l::ih r) ls) ss
def jwc (e:Option SO) (l:List (Nat × SV)):HP:=optC e (.ent .gone) fun e=>SO.rec (motive:=fun _=>HP) (fun c w el=>.ent (.own c w el)) (fun c=>.ent (.row c)) (fun s p f T ps a b d=>.loop s p f (juc (repN none (lenN T)) l) ps a b d) (fun ds=>.ent (.deferred ds)) (.ent .gone) (fun o=>.ent (.obj o)) e
theorem sum_runs {c:Cfg} {O:Nat->Prop} {w0 w:World} {β:Val} {H:List SO} {base:Nat} {f:FuncId} {vs:List Value} (hH:HeapRel0 c.P O w0 β H w)
  (I:Ifc) (hgl:∀ g j,c.glob g=some j->I.known j=true/\∃ l,β (I.big j)=some l/\l.blk=g/\l.off=0) (ha:SV.denL β (SV.renL I.big I.args)=some vs) (hI:I.Fits H) {r:SumRes} (keep:List Nat) (hk:∀ j∈keep,I.names.length<=j) (hkn:keep.Nodup)
  (hr:Runs c f I.args I.ents (I.Ends base keep r)):SumSem c.P H β w base f vs r:=by
 refine qks hH I hgl ha hI (qwd I.ents 0) keep (fun j c w el h=>(qye _ _ _).2 ⟨j,c,w,el,by omega,h⟩) (fun j hj => ?_) hk hkn (q4g _ _) hr.1 fun hH' hG ha'=>(hr.2 _ _ _ _ _ hH' hG ha').mono fun e w' hcame => ?_
 . obtain ⟨i,c,w,el,h,h'⟩:=(qye _ _ _).1 hj
   exact ⟨c,w,el,by rw [h,Nat.zero_add]; exact h'⟩
 . obtain ⟨v,H',x,β',he,h,hle,hv,hH2⟩:=hcame
   exact ⟨v,H',x,β',he,⟨h.val,h.uv,h.sets.length,h.sets.get,h.news.length,h.news.get⟩,hle,hv,hH2⟩
theorem qhy {c:Cfg} {w:World} {β:Val} {H:List SO} {f:FuncId} {args:List SV} {vs:List Value} (hH:HeapRel c.P (fun _=>False) w β H w) (hG:GlobRel c.glob β) (ha:SV.denL β args=some vs)
  (hr:Runs c f args H fun v _=>v=.bool (.lit true)):Calls c.P f vs.toArray w fun e w'=>e=.returned (.bool true)/\Go.RowKit.Below w.heap.size w w':=by
 refine (hr.2 _ _ _ _ _ hH hG ha).mono fun e w' hcame => ?_
 obtain ⟨v,H',x,β',rfl,rfl,_,hv,hH'⟩:=hcame
 cases hv
 exact ⟨rfl,hH'.keep.below⟩
end
noncomputable section
variable {α:Type}
def SO.keeps (p:Nat->Bool) (e:SO):Bool:=SO.rec (motive:=fun _=>Bool) (fun c _ _=>Cells.rec (motive:=fun _=>Bool) (fun l=>SV.usesL p l) (fun _ _=>false) (fun _ _=>true) c) (fun c=>Cells.rec (motive:=fun _=>Bool) (fun l=>SV.usesL p l) (fun _ _=>false) (fun _ _=>true) c) (fun _ _ _ _ _ _ _ _=>false) (fun _=>false) false (fun o=>o.uses p) e
theorem SO.keeps_rel {P:Program} {O:Nat->Prop} {w0 w:World} {β β':Val} {p:Nat->Bool} (hp:∀ n,p n=true->β n=β' n) {n:Nat} (hn:p n=true) {e:SO} (h:e.keeps p=true):EntryRel P O w0 β w n e->EntryRel P O w0 β' w n e:=by
 cases e with
 | own c wh el =>
   cases c with
   | lst l =>
     rintro ⟨lo,vs,rest,a,b,h1,h2,h3,h4⟩
     exact ⟨lo,vs,rest,a,b,(hp n hn)▸h1,h2,(show SV.denL β' l=some vs from by rw [← SV.denL_uses hp l h]; exact h3),h4⟩
   | fn=>cases h
   | raw V m =>
     rintro ⟨lo,vs,rest,a,b,h1,h2,h3,h4⟩
     exact ⟨lo,vs,rest,a,b,(hp n hn)▸h1,h2,h3,h4⟩
 | row c =>
   cases c with
   | lst l =>
     rintro ⟨lo,vs,h1,h3,h4⟩
     exact ⟨lo,vs,(hp n hn)▸h1,(show SV.denL β' l=some vs from by rw [← SV.denL_uses hp l h]; exact h3),h4⟩
   | fn=>cases h
   | raw V m =>
     rintro ⟨lo,vs,h1,h3,h4⟩
     exact ⟨lo,vs,(hp n hn)▸h1,h3,h4⟩
 | loop=>cases h
 | deferred=>cases h
 | gone=>cases h
 | obj o =>
   rintro ⟨lo,x,h1,h2,h3,h4⟩
   exact ⟨lo,x,(hp n hn)▸h1,h2,by rw [← SObj.den_uses hp h]; exact h3,h4⟩
theorem EntryRel.placed {P:Program} {O:Nat->Prop} {w0 w:World} {β:Val} {n:Nat} {e:SO} {p:Nat->Bool} (hk:e.keeps p=true) (h:EntryRel P O w0 β w n e):∃ l,β n=some l:=by
 cases e with
 | own=>obtain ⟨l,_,_,_,_,h,_⟩:=h; exact ⟨l,h⟩
 | row=>obtain ⟨l,_,h,_⟩:=h; exact ⟨l,h⟩
 | loop=>cases hk
 | deferred=>cases hk
 | gone=>cases hk
 | obj=>obtain ⟨l,_,h,_⟩:=h; exact ⟨l,h⟩
def q2h (M:List Nat) (H:List SO):Nat->List SO:=List.rec (motive:=fun _=>Nat->List SO) (fun _=>[]) (fun e _ ih i=>boolC (memN i M) e .gone::ih (Nat.succ i)) H
theorem qao (M:List Nat):∀ (H:List SO) (i n:Nat),(q2h M H i)[n]? = (H[n]?).map fun e=>boolC (memN (i+n) M) e .gone
 | [],i,n=>by simp [q2h]
 | e::H,i,n=>by
   show (boolC (memN i M) e .gone::q2h M H (i+1))[n]? = _
   cases n with
   | zero=>simp
   | succ n =>
     rw [List.getElem?_cons_succ,qao M H (i+1) n,List.getElem?_cons_succ,show i+1+n=i+(n+1) from by omega]
def ownM (H:List SO) (M:List Nat):List Nat:=q6d (fun m=>optC (nth H m) false SO.owned) M
def jxc (gl M:List Nat) (args:List SV) (H:List SO):Bool :=
 boolC (allN (fun g=>memN g M) gl) (boolC (allN (fun m=>optC (nth H m) false fun e=>e.keeps fun n=>memN n M) M) (SV.usesL (fun n=>memN n M) args) false) false
def jyc (t:Tree):Option (SV × List SO) :=
 Tree.rec (motive:=fun _=>Option (SV × List SO)) (fun v H=>some (v,H)) (fun _=>none) (fun _ _ ih=>ih) (fun b _ _ iht ihf=>boolC b iht ihf) (fun _=>none) (fun _ ih=>ih fun _=>0) t
def endP (M:List Nat) (v:SV) (es:List (Option SO)) (v':SV) (H':List SO):Prop:=v'=v/\mapN (fun m=>nth H' m) M=es
def atE (o:Option SO):SO:=optC o .gone fun e=>e
def runR (t:Tree) (M Mo:List Nat):R SumRes :=
 optC (jyc t) (.stuck 7779) fun r=>boolC (boolC (r.1.uses fun n=>memN n M) (allN (fun m=>optC (nth r.2 m) false fun e=>boolC e.owned (e.keeps fun n=>memN n M) false) Mo) false)
  (.need (t.Ob (endP Mo r.1 (mapN (fun m=>nth r.2 m) Mo)) fun _=>False) (.ok ⟨r.1,mapN (fun m=>(m,atE (nth r.2 m))) Mo,[]⟩)) (.stuck 7780)
def runS (c:Cfg) (n:Nat) (f:FuncId) (gl M:List Nat) (args:List SV) (H:List SO):R SumRes :=
 boolC (jxc gl M args H) (runR (qfa c n f args (q2h M H 0)) M (ownM H M)) (.stuck 7778)
def qiy (c:Cfg) (n:Nat) (f:FuncId) (gl:List Nat) (nm:List SV->List SO->List Nat):Summ:=fun args H _ =>
 List.rec (motive:=fun _=>R SumRes) (.stuck 7777) (fun _ _ _=>runS c n f gl (nm args H) args H) args
theorem mem_filterN {β:Type} {f:β->Bool} {l:List β} {a:β}:a∈q6d f l↔a∈l/\f a=true:=by
 induction l with
 | nil=>simp [q6d]
 | cons b l ih =>
   show a∈boolC (f b) (b::q6d f l) (q6d f l)↔_
   cases hb:f b with
   | true =>
     rw [boolC_true,List.mem_cons,ih,List.mem_cons]
     constructor
     . rintro (rfl | ⟨h1,h2⟩)
       . exact ⟨.inl rfl,hb⟩
       . exact ⟨.inr h1,h2⟩
     . rintro ⟨rfl | h,h2⟩
       . exact .inl rfl
       . exact .inr ⟨h,h2⟩
   | false =>
     rw [boolC_false,ih,List.mem_cons]
     constructor
     . rintro ⟨h1,h2⟩; exact ⟨.inr h1,h2⟩
     . rintro ⟨rfl | h,h2⟩
       . rw [hb] at h2; cases h2
       . exact ⟨h,h2⟩
theorem q19 {c:Cfg} (hc:CfgOK c) {n:Nat} {f:FuncId} {gl M:List Nat} (hgl:∀ g j,c.glob g=some j->j∈gl) {O:Nat->Prop} {w0 w:World} {β:Val} {H:List SO} {base:Nat} {args:List SV} {vs:List Value}
  (hH:HeapRel0 c.P O w0 β H w) (hG:GlobRel c.glob β) (ha:SV.denL β args=some vs):(runS c n f gl M args H).Sat (SumSem c.P H β w base f vs):=by
 unfold runS
 cases hok:jxc gl M args H with
 | false=>trivial
 | true =>
   rw [boolC_true]
   obtain ⟨hk1,hk2⟩:=q2a (show boolC (allN (fun g=>memN g M) gl) (boolC (allN (fun m=>optC (nth H m) false fun e=>e.keeps fun n=>memN n M) M) (SV.usesL (fun n=>memN n M) args) false) false=true from hok)
   obtain ⟨hk2,hk3⟩:=q2a hk2
   unfold runR
   cases hz:jyc (qfa c n f args (q2h M H 0)) with
   | none=>trivial
   | some r =>
     obtain ⟨v,H0⟩:=r
     rw [optC_some]
     cases hend:boolC (v.uses fun n=>memN n M) (allN (fun m=>optC (nth H0 m) false fun e=>boolC e.owned (e.keeps fun n=>memN n M) false) (ownM H M)) false with
     | false=>trivial
     | true =>
       rw [boolC_true]
       obtain ⟨hv,hes⟩:=q2a hend
       intro hob
       show SumSem c.P H β w base f vs ⟨v,mapN (fun m=>(m,atE (nth H0 m))) (ownM H M),[]⟩
       let p:Nat->Bool:=fun n=>memN n M
       let β1:Val:=fun n=>if memN n M=true then β n else none
       have hp:∀ n,p n=true->β n=β1 n:=fun n hn=>(if_pos hn).symm
       have hM:∀ m∈M,∃ e,H[m]? = some e/\e.keeps p=true:=by
        intro m hm
        have:=qkh hk2 m hm
        rw [qca] at this
        cases hx:H[m]? with
        | none=>rw [hx] at this; cases this
        | some e=>rw [hx] at this; exact ⟨e,rfl,this⟩
       have h1:HeapRel c.P O w0 β1 (q2h M H 0) w:=by
        have hget:∀ (n:Nat) (e:SO),(q2h M H 0)[n]? = some e->(p n=true/\H[n]? = some e)\/e=.gone:=by
         intro n e hn
         rw [qao,Nat.zero_add] at hn
         cases hx:H[n]? with
         | none=>rw [hx] at hn; cases hn
         | some e0 =>
           rw [hx] at hn
           have hn:boolC (memN n M) e0 .gone=e:=Option.some.inj hn
           cases hm:memN n M with
           | true=>rw [hm] at hn; exact .inl ⟨hm,hn▸rfl⟩
           | false=>rw [hm] at hn; exact .inr hn.symm
        have hsome:∀ (n:Nat) (l:Loc),β1 n=some l->β n=some l:=by
         intro n l hl
         have hl:(if memN n M=true then β n else none)=some l:=hl
         split at hl
         . exact hl
         . cases hl
        refine ⟨⟨fun n e hn => ?_,fun n m e e' l l' hn hm ho ho' hnm hl hl' => ?_,fun n e l hn ho hl => ?_,hH.keep⟩,fun n hn => ?_⟩
        . rcases hget n e hn with ⟨h1,h2⟩ | rfl
          . obtain ⟨e',h3,h4⟩:=hM n (memN_iff.1 h1)
            rw [h2] at h3; cases h3
            exact SO.keeps_rel hp h1 h4 (hH.entries n e h2)
          . trivial
        . rcases hget n e hn with ⟨_,h2⟩ | rfl
          . rcases hget m e' hm with ⟨_,h3⟩ | rfl
            . exact hH.sep n m e e' l l' h2 h3 ho ho' hnm (hsome _ _ hl) (hsome _ _ hl')
            . cases ho'
          . cases ho
        . rcases hget n e hn with ⟨_,h2⟩ | rfl
          . exact hH.fresh n e l h2 ho (hsome _ _ hl)
          . cases ho
        . show (if memN n M=true then β n else none)=none
          rw [if_neg]
          intro hm
          obtain ⟨e,he,_⟩:=hM n (memN_iff.1 hm)
          have hlen:(q2h M H 0).length=H.length:=by
           have:∀ (H:List SO) (i:Nat),(q2h M H i).length=H.length:=by
            intro H
            induction H with
            | nil=>intro i; rfl
            | cons e H ih=>intro i; show (q2h M H (i+1)).length+1=_; rw [ih]; rfl
           exact this H 0
          rw [hlen] at hn
          have:=(List.getElem?_eq_some_iff.1 he).1
          omega
       have h2:=h1.rebase
       have hG1:GlobRel c.glob β1:=by
        intro g j hg
        obtain ⟨l,hl,h⟩:=hG g j hg
        have:=qkh hk1 j (hgl g j hg)
        exact ⟨l,by rw [← hp j this]; exact hl,h⟩
       have ha1:SV.denL β1 args=some vs:=by rw [← SV.denL_uses hp args hk3]; exact ha
       have hcalls:=qrq hc h2 hG1 ha1 hob
       have hback:∀ β2:Val,β1.le β2->∀ n,p n=true->β2 n=β n:=by
        intro β2 hle n hn
        obtain ⟨e,he,hk⟩:=hM n (memN_iff.1 hn)
        obtain ⟨l,hl⟩:=EntryRel.placed hk (hH.entries n e he)
        rw [hl]
        exact hle n l (by rw [← hp n hn]; exact hl)
       have hown:∀ m,m∈ownM H M->m∈M/\∃ e,H[m]? = some e/\e.owned=true:=by
        intro m hm
        obtain ⟨h3,h4⟩:=mem_filterN.1 hm
        rw [qca] at h4
        cases hx:H[m]? with
        | none=>rw [hx] at h4; cases h4
        | some e=>rw [hx] at h4; exact ⟨h3,e,rfl,h4⟩
       have hsets:∀ n e,(n,e)∈mapN (fun m=>(m,atE (nth H0 m))) (ownM H M)->n∈ownM H M/\e=atE (nth H0 n):=by
        intro n e h
        rw [qja,List.mem_map] at h
        obtain ⟨m,hm,he⟩:=h
        cases he
        exact ⟨hm,rfl⟩
       refine fun _=>⟨fun n e hn=>(hown n (hsets n e hn).1).2,.inl ⟨?_,fun cs => ?_⟩⟩
       . unfold qfa at hz
         cases hg:q7d c.P f args with
         | none=>rw [hg] at hz; cases hz
         | some g=>exact (qtn hg ha1).2
       . obtain ⟨e,w',fr,⟨v',H',x,β2,rfl,⟨rfl,hes'⟩,hle,hden,hHe⟩,h5⟩:=hcalls cs
         refine ⟨_,w',fr,⟨x,β,rfl,?_,?_⟩,h5⟩
         . show v'.den β=some x
           rw [← SV.den_uses (hback β2 hle) _ hv]; exact hden
         . refine ⟨Val.le_refl β,hHe.keep.os,hHe.keep.tape,hHe.keep.output,hHe.keep.drawn,hHe.keep.size,fun _ _=>rfl,fun b hb hno => ?_,fun n e e' h3 h4 => ?_,fun n e hn => ?_,by simp,by simp⟩
           . refine hHe.keep.block b hb ?_
             rintro ⟨n,e,l,hn,ho,hl,rfl⟩
             rw [qao,Nat.zero_add] at hn
             cases hx:H[n]? with
             | none=>rw [hx] at hn; cases hn
             | some e0 =>
               rw [hx] at hn
               have hn:boolC (memN n M) e0 .gone=e:=Option.some.inj hn
               cases hm:memN n M with
               | false=>rw [hm] at hn; subst hn; cases ho
               | true =>
                 rw [hm] at hn
                 have hn:e0=e:=hn
                 subst hn
                 have hmo:n∈ownM H M:=mem_filterN.2 ⟨memN_iff.1 hm,by rw [qca,hx]; exact ho⟩
                 refine hno n (atE (nth H0 n)) l ?_ (by rw [hp n hm]; exact hl) rfl
                 rw [qja,List.mem_map]
                 exact ⟨n,hmo,rfl⟩
           . rw [(hsets n e h3).2,(hsets n e' h4).2]
           . obtain ⟨hmo,rfl⟩:=hsets n e hn
             have h6:=qkh hes n hmo
             have h7:nth H' n=nth H0 n:=by
              rw [qja,qja] at hes'
              exact List.map_inj_left.1 hes' n hmo
             cases hx:nth H0 n with
             | none=>rw [hx] at h6; cases h6
             | some e =>
               rw [hx] at h6 h7
               obtain ⟨h8,h9⟩:=q2a (show boolC e.owned (e.keeps fun n=>memN n M) false=true from h6)
               rw [qca] at h7
               show OwnRel c.P β w' n e
               have hpn:p n=true:=memN_iff.2 (hown n hmo).1
               exact (SO.keeps_rel (P:=c.P) (hback β2 hle) hpn h9 (hHe.entries n e h7)).toOwn h8
theorem q76 {c:Cfg} (hc:CfgOK c) (n:Nat) (f:FuncId) (gl:List Nat) (nm:List SV->List SO->List Nat) (hgl:∀ g j,c.glob g=some j->j∈gl):SumAt c.P c.glob f (qiy c n f gl nm):=by
 intro O w0 β H w base args vs hH hG ha
 unfold qiy
 cases args with
 | nil=>trivial
 | cons a r=>exact q19 hc hgl hH hG ha
def allL (js:List Nat) (t:Tree):(Nat->Nat->Nat)->List Prop × List (Option (SV × List (Option SO))) :=
 Tree.rec (motive:=fun _=>(Nat->Nat->Nat)->List Prop × List (Option (SV × List (Option SO)))) (fun v H _=>([],[some (v,mapN (fun j=>nth H j) js)])) (fun _ _=>([],[none])) (fun p _ ih z=>(p::(ih z).1,(ih z).2))
  (fun _ _ _ iht ihf z=>(app (iht z).1 (ihf z).1,app (iht z).2 (ihf z).2)) (fun _ _=>([],[none])) (fun _ ih z=>ih (z 0) fun i=>z (i+1)) t
theorem qz0 {js:List Nat} {t:Tree} {v:SV} {es:List (Option SO)} (hp:∀ z,∀ p∈(allL js t z).1,p) (hl:∀ z,∀ r∈(allL js t z).2,r=some (v,es)):t.Ob (endP js v es) fun _=>False:=by
 have z0:Nat->Nat->Nat:=fun _ _=>0
 induction t with
 | done v' H =>
   have:=Option.some.inj (hl z0 (some (v',mapN (fun j=>nth H j) js)) List.mem_cons_self)
   cases this
   exact ⟨rfl,rfl⟩
 | stop s=>cases hl z0 none List.mem_cons_self
 | need p t ih=>exact ⟨hp z0 p List.mem_cons_self,ih (fun z q hq=>hp z q (List.mem_cons_of_mem _ hq)) hl⟩
 | fork b t f iht ihf =>
   have h1:∀ z,(allL js (.fork b t f) z).1=(allL js t z).1++(allL js f z).1:=fun z=>q1a _ _
   have h2:∀ z,(allL js (.fork b t f) z).2=(allL js t z).2++(allL js f z).2:=fun z=>q1a _ _
   exact ⟨fun _=>iht (fun z q hq=>hp z q (by rw [h1]; exact List.mem_append_left _ hq)) (fun z q hq=>hl z q (by rw [h2]; exact List.mem_append_left _ hq)),
    fun _=>ihf (fun z q hq=>hp z q (by rw [h1]; exact List.mem_append_right _ hq)) (fun z q hq=>hl z q (by rw [h2]; exact List.mem_append_right _ hq))⟩
 | stuck n=>cases hl z0 none List.mem_cons_self
 | any k ih =>
   intro z
   refine ih z (fun z' q hq=>hp (fun i=>match i with | 0=>z | i+1=>z' i) q hq) fun z' q hq=>hl (fun i=>match i with | 0=>z | i+1=>z' i) q hq
end
noncomputable section
def TakenQ (f:Nat->Nat) (E e:SO):Prop :=
 match E with
 | .obj o=>∃ o0,e=.obj o0/\o0.Imp (o.ren f)
 | .gone=>∃ l:Option Nat,l=l/\(e.placed=true\/∃ o,e=.obj o)
 | E=>Taken f E e
def SO.CUsesQ (p:Nat->Bool) (E:SO):Prop :=
 match E with
 | .obj o=>o.uses p=true
 | E=>E.CUses p
theorem Taken.q {f:Nat->Nat} {E e:SO} (h:Taken f E e):TakenQ f E e:=by
 cases E with
 | own=>exact h
 | row=>exact h
 | loop=>exact h
 | deferred=>exact h
 | gone=>exact ⟨none,rfl,.inl h⟩
 | obj=>exact h.elim
theorem SO.CUses.q {p:Nat->Bool} {E:SO} (h:E.CUses p):E.CUsesQ p:=by
 cases E with
 | own=>exact h
 | row=>exact h
 | loop=>exact h
 | deferred=>exact h
 | gone=>exact h
 | obj=>exact h.elim
structure Ifc.FitsQ (I:Ifc) (H:List SO):Prop where
 len:I.ents.length=I.names.length
 nodup:∀ (i j nm:Nat),I.names[i]? = some nm->I.names[j]? = some nm->i=j
 uargs:SV.usesL I.known I.args=true
 ent:∀ (j:Nat) (E:SO),I.ents[j]? = some E->∃ e,H[I.big j]? = some e/\TakenQ I.big E e
 uent:∀ (j:Nat) (E:SO),I.ents[j]? = some E->E.CUsesQ I.known
theorem Ifc.Fits.q {I:Ifc} {H:List SO} (h:I.Fits H):I.FitsQ H:=⟨h.len,h.nodup,h.uargs,fun j E he=>let ⟨e,h1,h2⟩:=h.ent j E he; ⟨e,h1,h2.q⟩,fun j E he=>(h.uent j E he).q⟩
def EntsQ (f:Nat->Nat) (p:Nat->Bool) (H:List SO):List Nat->List SO->Prop
 | n::ns,E::Es=>((∃ e,H[n]? = some e/\TakenQ f E e)/\E.CUsesQ p)/\EntsQ f p H ns Es
 | [],[]=>True
 | _,_=>False
theorem EntsQ.length {f:Nat->Nat} {p:Nat->Bool} {H:List SO}:∀ {ns:List Nat} {Es:List SO},EntsQ f p H ns Es->Es.length=ns.length
 | [],[],_=>rfl
 | _::_,_::_,h=>by simp only [List.length_cons]; rw [EntsQ.length h.2]
 | [],_::_,h=>h.elim
 | _::_,[],h=>h.elim
theorem EntsQ.get {f:Nat->Nat} {p:Nat->Bool} {H:List SO}:∀ {ns:List Nat} {Es:List SO},EntsQ f p H ns Es->∀ (j:Nat) (E:SO),Es[j]? = some E->(∃ e,H[(nth ns j).getD 0]? = some e/\TakenQ f E e)/\E.CUsesQ p
 | [],[],_,j,E,h=>by simp at h
 | n::ns,E'::Es,h,0,E,hE=>by simp at hE; subst hE; exact h.1
 | n::ns,E'::Es,h,j+1,E,hE=>by
   have:=EntsQ.get h.2 j E (by simpa using hE)
   rw [qca] at this ⊢
   simpa using this
 | [],_::_,h,_,_,_=>h.elim
 | _::_,[],h,_,_,_=>h.elim
theorem Ifc.fitsQ {I:Ifc} {H:List SO} (hn:I.names.Nodup) (hu:SV.usesL I.known I.args=true) (he:EntsQ I.big I.known H I.names I.ents):I.FitsQ H :=
 ⟨he.length,fun _ _ _ hi hj=>(List.getElem?_inj (List.getElem?_eq_some_iff.1 hi).1 hn).1 (hi.trans hj.symm),hu,fun j E hE=>(he.get j E hE).1,fun j E hE=>(he.get j E hE).2⟩
def Ifc.ownsQ (I:Ifc) (β:Val) (b:Nat):Prop:=∃ (j:Nat) (E:SO) (l:Loc),I.ents[j]? = some E/\E.owned=true/\β (I.big j)=some l/\l.blk=b
theorem TakenQ.owned {f:Nat->Nat} {p:Nat->Bool} {E e:SO} (h:TakenQ f E e) (hu:E.CUsesQ p) (ho:E.owned=true):e.owned=true:=by
 cases E with
 | own=>obtain ⟨_,rfl,_⟩:=h; rfl
 | row=>cases ho
 | loop=>exact hu.elim
 | deferred=>exact hu.elim
 | gone=>cases ho
 | obj=>obtain ⟨_,rfl,_⟩:=h; rfl
theorem EntryRel.loc {P:Program} {O:Nat->Prop} {w0 w:World} {β:Val} {n:Nat} {e:SO} (h:EntryRel P O w0 β w n e) (hp:e.placed=true\/∃ o,e=.obj o):∃ l,β n=some l:=by
 rcases hp with hp | ⟨o,rfl⟩
 . cases e with
   | own cc ww el=>obtain ⟨l,_,_,_,_,hl,_⟩:=h; exact ⟨l,hl⟩
   | row cc=>obtain ⟨l,_,hl,_⟩:=h; exact ⟨l,hl⟩
   | loop=>cases hp
   | deferred=>cases hp
   | gone=>cases hp
   | obj=>cases hp
 . obtain ⟨l,_,hl,_⟩:=h; exact ⟨l,hl⟩
theorem Ifc.heapQ {P:Program} {O:Nat->Prop} {w0 w:World} {β:Val} {H:List SO} {I:Ifc} (h:HeapRel0 P O w0 β H w) (hI:I.FitsQ H):HeapRel P (I.ownsQ β) w (I.val β) I.ents w:=by
 have hj:∀ (j:Nat) (E:SO),I.ents[j]? = some E->j<I.names.length:=fun j E he=>by
  rw [← hI.len]; exact (List.getElem?_eq_some_iff.1 he).1
 have hval:∀ (j:Nat) (E:SO),I.ents[j]? = some E->I.val β j=β (I.big j):=fun j E he=>by
  exact (Ifc.val_known j ((I.known_iff j).2 (hj j E he))).symm
 have hne:∀ (i j:Nat) (E E':SO),I.ents[i]? = some E->I.ents[j]? = some E'->i≠j->I.big i≠I.big j:=fun i j E E' h1 h2 hij heq =>
  hij (hI.nodup i j (I.big i) (Ifc.big_get (hj i E h1)) (by rw [heq]; exact Ifc.big_get (hj j E' h2)))
 refine ⟨⟨fun n E hn => ?_,fun n m E E' l l' hn hm ho ho' hnm hl hl' => ?_,fun n E l hn ho hl => ?_,⟨rfl,rfl,rfl,Nat.le_refl _,Nat.le_refl _,fun _ _ _=>rfl⟩⟩,fun n hn => ?_⟩
 . obtain ⟨e,he,ht⟩:=hI.ent n E hn
   have hu:=hI.uent n E hn
   have hv:=hval n E hn
   have h0:=h.entries _ e he
   cases E with
   | own c wh el =>
     obtain ⟨c0,rfl,himp⟩:=ht
     obtain ⟨l,vs,rest,lo,hi,hl,h0',hc,hh,hfz,hw,hcap⟩:=h0
     exact ⟨l,vs,rest,lo,hi,hv.trans hl,h0',(CellsRel.ren hu Ifc.val_known).1 (himp _ _ hc),hh,hfz,hw,hcap⟩
   | row c =>
     have htake:∀ (vs:List Value) (k i:Nat) (x:Value),(vs.take k)[i]? = some x->vs[i]? = some x:=by
      intro vs k i x h
      rw [List.getElem?_take] at h
      split at h
      . exact h
      . cases h
     obtain ⟨c0,ht,himp⟩:=ht
     rcases ht with rfl | ⟨wh,el,rfl⟩
     . obtain ⟨l,vs,hl,hc,hx⟩:=h0
       obtain ⟨kk,hc⟩:=himp _ _ hc
       refine ⟨l,vs.take kk,hv.trans hl,(CellsRel.ren hu Ifc.val_known).1 hc,fun i x hi => ?_⟩
       obtain ⟨h1,h2,h3⟩:=hx i x (htake _ _ _ _ hi)
       refine ⟨Nat.lt_of_lt_of_le h1 h.keep.size,?_,?_⟩
       . rintro ⟨j,E',l',hj',ho',hl',hb⟩
         obtain ⟨e',he',ht'⟩:=hI.ent j _ hj'
         rcases h.fresh _ _ l' he' (ht'.owned (hI.uent j _ hj') ho') hl' with h4 | h4
         . omega
         . exact h2 (hb▸h4)
       . rw [World.cell_of_block (h.keep.block _ h1 h2)]; exact h3
     . obtain ⟨l,vs,rest,lo,hi,hl,h0',hc,hh,hfz,hw,hcap⟩:=h0
       obtain ⟨kk,hc⟩:=himp _ _ hc
       refine ⟨l,vs.take kk,hv.trans hl,(CellsRel.ren hu Ifc.val_known).1 hc,fun i x hi0=>⟨(Array.getElem?_eq_some_iff.1 hh).1,?_,?_⟩⟩
       . rintro ⟨j,E',l',hj',ho',hl',hb⟩
         obtain ⟨e',he',ht'⟩:=hI.ent j _ hj'
         by_cases hnj:n=j
         . subst hnj; rw [hn] at hj'; cases hj'; cases ho'
         . exact h.sep _ _ _ _ l l' he he' rfl (ht'.owned (hI.uent j _ hj') ho') (hne n j _ _ hn hj' hnj) hl hl' hb.symm
       . unfold World.cell?
         rw [hh,h0',Nat.zero_add]
         have hi':=htake _ _ _ _ hi0
         have hlt:=(List.getElem?_eq_some_iff.1 hi').1
         simp only [List.getElem?_toArray,List.getElem?_append_left hlt,hi']
         rfl
   | loop=>exact hu.elim
   | deferred=>exact hu.elim
   | gone=>trivial
   | obj o =>
     obtain ⟨o0,rfl,himp⟩:=ht
     obtain ⟨l,x,hl,h0',hd,hh⟩:=h0
     refine ⟨l,x,hv.trans hl,h0',?_,hh⟩
     have:=himp _ _ hd
     rw [SObj.den_ren,SObj.den_uses (β:=fun n=>β (I.big n)) (β':=I.val β) Ifc.val_known hu] at this
     exact this
 . obtain ⟨e,he,ht⟩:=hI.ent n E hn
   obtain ⟨e',he',ht'⟩:=hI.ent m E' hm
   rw [hval n E hn] at hl
   rw [hval m E' hm] at hl'
   exact h.sep _ _ _ _ l l' he he' (ht.owned (hI.uent n E hn) ho) (ht'.owned (hI.uent m E' hm) ho') (hne n m _ _ hn hm hnm) hl hl'
 . rw [hval n E hn] at hl
   exact .inr ⟨n,E,l,hn,ho,hl,rfl⟩
 . unfold Ifc.val
   rw [if_neg]
   rw [I.known_iff,← hI.len]; omega
def j6g (p:Nat->Bool) (g:Nat->Nat) (E:Option SO) (e:SO):Prop:=qge p g E e\/∃ o,E=some (.obj o)/\o.uses p=true/\e=.obj (o.ren g)
def qgd (p:Nat->Bool) (g:Nat->Nat) (E:Option SO) (e:SO):Prop:=qge p g E e\/∃ o o',E=some (.obj o)/\o.uses p=true/\(o.ren g).Imp o'/\e=.obj o'
structure Ifc.OutQ (I:Ifc) (base:Nat) (turn keep:List Nat) (r:SumRes) (v:SV) (H:List SO):Prop where
 val:(v.ren (I.out base keep)).Imp r.v
 uv:v.uses (I.seen keep)=true
 setsLen:r.sets.length=turn.length
 sets:∀ (i j:Nat),turn[i]? = some j->∃ e,r.sets[i]? = some (I.big j,e)/\qgd (I.seen keep) (I.out base keep) H[j]? e
 newsLen:r.news.length=keep.length
 news:∀ (i j:Nat),keep[i]? = some j->∃ e,r.news[i]? = some e/\qgd (I.seen keep) (I.out base keep) H[j]? e
theorem q3z {c:Cfg} {O:Nat->Prop} {w0 w:World} {β:Val} {H:List SO} {base:Nat} {f:FuncId} {vs:List Value} (hH:HeapRel0 c.P O w0 β H w)
  (I:Ifc) (hgl:∀ g j,c.glob g=some j->I.known j=true/\∃ l,β (I.big j)=some l/\l.blk=g/\l.off=0) (ha:SV.denL β (SV.renL I.big I.args)=some vs) (hI:I.FitsQ H) {r:SumRes} (turn keep:List Nat) (ht1:∀ (j:Nat) E,I.ents[j]? = some E->E.owned=true->j∈turn) (ht2:∀ j∈turn,∃ E,I.ents[j]? = some E/\E.owned=true) (hk:∀ j∈keep,I.names.length<=j) (hkn:keep.Nodup) (htn:turn.Nodup:=by simp)
  (hbody:∃ fn,c.P.funcs[f]? = some fn/\fn.body.isSome=true)
  (hrun:HeapRel c.P (I.ownsQ β) w (I.val β) I.ents w->GlobRel c.glob (I.val β)->SV.denL (I.val β) I.args=some vs->Calls c.P f vs.toArray w (Came c.P (I.ownsQ β) w (I.val β) (I.OutQ base turn keep r))):SumSem c.P H β w base f vs r:=by
 intro hfree
 have hH':=Ifc.heapQ hH hI
 have ha':SV.denL (I.val β) I.args=some vs:=by
  rw [SV.denL_ren,SV.denL_uses Ifc.val_known _ hI.uargs] at ha; exact ha
 have hcalls:=hrun hH' (fun g j hg=>let ⟨hk,l,h1,h2⟩:=hgl g j hg; ⟨l,by rw [← Ifc.val_known j hk]; exact h1,h2⟩) ha'
 have hown:∀ j∈turn,∃ e l,H[I.big j]? = some e/\e.owned=true/\β (I.big j)=some l/\I.val β j=some l/\j<I.names.length:=by
  intro j hj
  obtain ⟨E,he,ho⟩:=ht2 j hj
  obtain ⟨e,he',ht⟩:=hI.ent j _ he
  have hu:=hI.uent j _ he
  have hjl:j<I.names.length:=by rw [← hI.len]; exact (List.getElem?_eq_some_iff.1 he).1
  have hpl:e.placed=true\/∃ o,e=.obj o:=by
   cases E with
   | own=>obtain ⟨_,rfl,_⟩:=ht; exact .inl rfl
   | row=>cases ho
   | loop=>exact hu.elim
   | deferred=>exact hu.elim
   | gone=>cases ho
   | obj=>obtain ⟨_,rfl,_⟩:=ht; exact .inr ⟨_,rfl⟩
  obtain ⟨l,hl⟩:=(hH.entries _ _ he').loc hpl
  exact ⟨e,l,he',ht.owned hu ho,hl,by rw [← Ifc.val_known j ((I.known_iff j).2 hjl)]; exact hl,hjl⟩
 have hsets:∀ (v:SV) (H'':List SO),I.OutQ base turn keep r v H''->∀ m e,(m,e)∈r.sets->∃ j∈turn,m=I.big j/\qgd (I.seen keep) (I.out base keep) H''[j]? e/\∃ i:Nat,turn[i]? = some j/\r.sets[i]? = some (m,e):=by
  intro v H'' hout m e hm
  obtain ⟨i,hi⟩:=List.mem_iff_getElem?.1 hm
  have hil:=(List.getElem?_eq_some_iff.1 hi).1
  rw [hout.setsLen] at hil
  obtain ⟨e',h1,h2⟩:=hout.sets i _ (List.getElem?_eq_getElem hil)
  rw [hi] at h1
  cases h1
  exact ⟨_,List.getElem_mem hil,rfl,h2,i,List.getElem?_eq_getElem hil,hi⟩
 refine ⟨?_,.inl ⟨hbody,?_⟩⟩
 . intro m e hm
   obtain ⟨e',w',fr,hcame,_⟩:=hcalls []
   obtain ⟨v,H'',x,β'',_,hout,_⟩:=hcame
   obtain ⟨j,hj,rfl,_⟩:=hsets v H'' hout m e hm
   obtain ⟨e0,l,h1,h2,_⟩:=hown j hj
   exact ⟨_,h1,h2⟩
 . intro cs
   obtain ⟨e',w',fr,hcame,hst⟩:=hcalls cs
   refine ⟨e',w',fr,?_,hst⟩
   obtain ⟨v,H'',x,β'',rfl,hout,hle,hv,hH2⟩:=hcame
   let βb:Val:=fun n=>if base<=n/\n<base+keep.length then (keep[n - base]?).bind β'' else β n
   have hlenn:r.news.length=keep.length:=hout.newsLen
   have hfree':∀ i,i<keep.length->β (base+i)=none:=fun i hi=>hfree i (by rw [hlenn]; exact hi)
   have hβle:β.le βb:=by
    intro n l hn
    show (if _ then _ else _)=_
    rw [if_neg]
    . exact hn
    . rintro ⟨h1,h2⟩
      have:=hfree' (n - base) (by omega)
      rw [show base+(n - base)=n from by omega,hn] at this; cases this
   have hseen:∀ j,I.seen keep j=true->βb (I.out base keep j)=β'' j:=by
    intro j hj
    unfold Ifc.seen at hj
    unfold Ifc.out
    cases hkn':I.known j with
    | true =>
      rw [boolC_true]
      have hjl:=(I.known_iff j).1 hkn'
      obtain ⟨E,hE⟩:∃ E,I.ents[j]? = some E:=⟨_,List.getElem?_eq_getElem (by rw [hI.len]; exact hjl)⟩
      obtain ⟨e,he,htk⟩:=hI.ent j E hE
      have hu:=hI.uent j E hE
      have hpl:e.placed=true\/∃ o,e=.obj o:=by
       cases E with
       | own cc ww el=>obtain ⟨c1,rfl,_⟩:=htk; exact .inl rfl
       | row cc=>obtain ⟨c1,rfl | ⟨ww,el,rfl⟩,_⟩:=htk <;> exact .inl rfl
       | loop=>exact hu.elim
       | deferred=>exact hu.elim
       | gone=>obtain ⟨_,_,h⟩:=htk; exact h
       | obj=>obtain ⟨_,rfl,_⟩:=htk; exact .inr ⟨_,rfl⟩
      obtain ⟨l,hl⟩:=(hH.entries _ _ he).loc hpl
      rw [hβle _ _ hl]
      have:I.val β j=some l:=by rw [← Ifc.val_known j hkn']; exact hl
      rw [hle _ _ this]
    | false =>
      rw [hkn',boolC_false,memN_iff] at hj
      rw [boolC_false]
      have h1:=qrg hj
      have h2:=(List.getElem?_eq_some_iff.1 h1).1
      show (if _ then _ else _)=_
      rw [if_pos (by omega),show base+idxN j keep - base=idxN j keep from by omega,h1]; rfl
   have hrenOwn:∀ (j:Nat) (e:SO),qgd (I.seen keep) (I.out base keep) H''[j]? e->I.seen keep j=true->e.owned=true/\OwnRel c.P βb w' (I.out base keep j) e:=by
    intro j e hg hs
    rcases hg with ⟨cc,ww,el,c',he,hu,himp,rfl⟩ | ⟨o,o',he,hu,himp,rfl⟩
    . obtain ⟨l,vs,rest,lo,hi,hl,h0,hcl,hh,hfz,hw,hcap⟩:=hH2.entries j _ he
      exact ⟨rfl,l,vs,rest,lo,hi,(hseen j hs).trans hl,h0,himp _ _ ((CellsRel.ren hu hseen).2 hcl),hh,hfz,hw,hcap⟩
    . obtain ⟨l,y,hl,h0,hd,hh⟩:=hH2.entries j _ he
      exact ⟨rfl,l,y,(hseen j hs).trans hl,h0,himp _ _ (by rw [SObj.den_ren,SObj.den_uses (β:=fun n=>βb (I.out base keep n)) (β':=β'') hseen hu]; exact hd),hh⟩
   have hatJ:∀ (j:Nat) (e:SO),qgd (I.seen keep) (I.out base keep) H''[j]? e->∃ e0 l,H''[j]? = some e0/\e0.owned=true/\β'' j=some l:=by
    intro j e hg
    rcases hg with ⟨cc,ww,el,c',he,_⟩ | ⟨o,o',he,_⟩
    . obtain ⟨l,vs2,rest,lo,hi2,hl,_⟩:=hH2.entries j _ he
      exact ⟨_,l,he,rfl,hl⟩
    . obtain ⟨l,y,hl,_⟩:=hH2.entries j _ he
      exact ⟨_,l,he,rfl,hl⟩
   have hseenT:∀ j∈turn,I.seen keep j=true/\I.out base keep j=I.big j:=by
    intro j hj
    obtain ⟨_,_,_,_,_,_,hjl⟩:=hown j hj
    have:=(I.known_iff j).2 hjl
    unfold Ifc.seen Ifc.out
    rw [this]; exact ⟨rfl,rfl⟩
   have hseenK:∀ j∈keep,I.seen keep j=true/\I.known j=false:=by
    intro j hj
    have hnk:I.known j=false:=by
     cases hx:I.known j with
     | false=>rfl
     | true=>have:=(I.known_iff j).1 hx; have:=hk j hj; omega
    unfold Ifc.seen
    rw [hnk]; exact ⟨qpg hj,rfl⟩
   have hnewsAt:∀ (i:Nat) (e:SO),r.news[i]? = some e->∃ j,keep[i]? = some j/\qgd (I.seen keep) (I.out base keep) H''[j]? e:=by
    intro i e hi
    have hil:=(List.getElem?_eq_some_iff.1 hi).1
    rw [hlenn] at hil
    obtain ⟨e',h1,h2⟩:=hout.news i _ (List.getElem?_eq_getElem hil)
    rw [hi] at h1; cases h1
    exact ⟨_,List.getElem?_eq_getElem hil,h2⟩
   refine ⟨x,βb,rfl,?_,⟨hβle,hH2.keep.os,hH2.keep.tape,hH2.keep.output,hH2.keep.drawn,hH2.keep.size,?_,?_,?_,?_,?_,?_⟩⟩
   . refine hout.val _ _ ?_
     rw [SV.den_ren,SV.den_uses hseen _ hout.uv]; exact hv
   . intro n hn
     rw [hlenn] at hn
     show (if _ then _ else _)=_
     rw [if_neg (by omega)]
   . intro b hb hno
     refine hH2.keep.block b hb ?_
     rintro ⟨j,E,l,hj,ho,hl,rfl⟩
     have hjt:=ht1 j E hj ho
     obtain ⟨i,hi⟩:=List.mem_iff_getElem?.1 hjt
     obtain ⟨e,he,_⟩:=hout.sets i j hi
     exact hno (I.big j) e l (List.mem_of_getElem? he) hl rfl
   . intro m e e' h1 h2
     obtain ⟨j,hj,hm1,hg1,i1,ht1',hs1⟩:=hsets v H'' hout m e h1
     obtain ⟨k,hk',hm2,hg2,i2,ht2',hs2⟩:=hsets v H'' hout m e' h2
     obtain ⟨_,_,_,_,_,_,hjl⟩:=hown j hj
     obtain ⟨_,_,_,_,_,_,hkl⟩:=hown k hk'
     have hjk:k=j:=hI.nodup k j (I.big k) (Ifc.big_get hkl) (by rw [← hm2,hm1]; exact Ifc.big_get hjl)
     subst hjk
     have:i1=i2:=(List.getElem?_inj (List.getElem?_eq_some_iff.1 ht1').1 htn).1 (ht1'.trans ht2'.symm)
     subst this
     rw [hs1] at hs2
     exact (Prod.mk.inj (Option.some.inj hs2)).2
   . intro m e hm
     obtain ⟨j,hj,rfl,hg,_⟩:=hsets v H'' hout m e hm
     obtain ⟨hs,hb⟩:=hseenT j hj
     rw [← hb]
     exact (hrenOwn j e hg hs).2
   . intro i e hi
     obtain ⟨j,hj,hg⟩:=hnewsAt i e hi
     have hjm:=List.mem_of_getElem? hj
     obtain ⟨hs,hnk⟩:=hseenK j hjm
     have hout':I.out base keep j=base+i:=by
      unfold Ifc.out
      rw [hnk,boolC_false]
      have h1:=qrg hjm
      have:idxN j keep=i:=(List.getElem?_inj (List.getElem?_eq_some_iff.1 h1).1 hkn).1 (h1.trans hj.symm)
      rw [this]
     obtain ⟨ho,hor⟩:=hrenOwn j e hg hs
     refine ⟨ho,hout'▸hor,?_⟩
     obtain ⟨e0,l,he,he0,hl⟩:=hatJ j e hg
     refine ⟨l,by rw [← hout',hseen j hs]; exact hl,.inl ?_⟩
     rcases hH2.fresh j _ l he he0 hl with h1 | ⟨k,E,lk,hk1,hko,hk2,hk3⟩
     . exact h1
     . exfalso
       have hkt:=ht1 k E hk1 hko
       obtain ⟨i3,hi3⟩:=List.mem_iff_getElem?.1 hkt
       obtain ⟨e3,_,hg3⟩:=hout.sets i3 k hi3
       obtain ⟨e4,l4,he4,ho4,hl4⟩:=hatJ k e3 hg3
       obtain ⟨_,l2,_,_,hb2,hv2,hkl⟩:=hown k hkt
       rw [hb2] at hk2; cases hk2
       rw [hle _ _ hv2] at hl4; cases hl4
       refine hH2.sep k j _ _ lk l he4 he ho4 he0 ?_ (hle _ _ hv2) hl hk3
       have:=hk j hjm; omega
   . intro i j l l' hij hi hj hl hl'
     rw [hlenn] at hi hj
     have hone:∀ i,i<keep.length->∀ l,βb (base+i)=some l->∃ k,keep[i]? = some k/\β'' k=some l:=by
      intro i hi l hl
      have hl:(if base<=base+i/\base+i<base+keep.length then (keep[base+i - base]?).bind β'' else β (base+i))=some l:=hl
      rw [if_pos (by omega),show base+i - base=i from by omega,List.getElem?_eq_getElem hi] at hl
      exact ⟨_,List.getElem?_eq_getElem hi,hl⟩
     obtain ⟨k1,hk1,hb1⟩:=hone i hi l hl
     obtain ⟨k2,hk2,hb2⟩:=hone j hj l' hl'
     obtain ⟨n1,_,hg1⟩:=hout.news i k1 hk1
     obtain ⟨n2,_,hg2⟩:=hout.news j k2 hk2
     obtain ⟨e1,_,he1,ho1,_⟩:=hatJ k1 n1 hg1
     obtain ⟨e2,_,he2,ho2,_⟩:=hatJ k2 n2 hg2
     refine hH2.sep k1 k2 _ _ l l' he1 he2 ho1 ho2 (fun h => ?_) hb1 hb2
     subst h
     exact hij ((List.getElem?_inj (List.getElem?_eq_some_iff.1 hk1).1 hkn).1 (hk1.trans hk2.symm))
def q1c:List SO->Nat->List Nat
 | [],_=>[]
 | E::Es,k=>if E.owned then k::q1c Es (k+1) else q1c Es (k+1)
theorem qce:∀ (Es:List SO) (k j:Nat),j∈q1c Es k↔∃ i E,j=k+i/\Es[i]? = some E/\E.owned=true
 | [],k,j=>by simp [q1c]
 | E::Es,k,j=>by
   have ih:=qce Es (k+1) j
   have hstep:(∃ i E',j=k+1+i/\Es[i]? = some E'/\E'.owned=true)->∃ i E',j=k+i/\(E::Es)[i]? = some E'/\E'.owned=true:=fun ⟨i,E',h,h',h3⟩=>⟨i+1,E',by omega,by simpa using h',h3⟩
   unfold q1c
   split
   . rename_i ho
     rw [List.mem_cons,ih]
     constructor
     . rintro (rfl | h)
       . exact ⟨0,_,rfl,rfl,ho⟩
       . exact hstep h
     . rintro ⟨i,E',h,h',h3⟩
       cases i with
       | zero=>exact .inl h
       | succ i=>exact .inr ⟨i,E',by omega,by simpa using h',h3⟩
   . rename_i ho
     rw [ih]
     constructor
     . exact hstep
     . rintro ⟨i,E',h,h',h3⟩
       cases i with
       | zero=>simp at h'; subst h'; exact absurd h3 ho
       | succ i=>exact ⟨i,E',by omega,by simpa using h',h3⟩
theorem qcg:∀ (Es:List SO) (k:Nat),(q1c Es k).Nodup
 | [],k=>by simp [q1c]
 | E::Es,k=>by
   unfold q1c
   split
   . refine List.nodup_cons.2 ⟨fun h => ?_,qcg Es (k+1)⟩
     obtain ⟨i,_,h,_⟩:=(qce Es (k+1) k).1 h
     omega
   . exact qcg Es (k+1)
def SetsQ (big:Nat->Nat) (p:Nat->Bool) (g:Nat->Nat) (H:List SO):List Nat->List (Nat × SO)->Prop
 | j::js,x::rs=>(x.1=big j/\qgd p g H[j]? x.2)/\SetsQ big p g H js rs
 | [],[]=>True
 | _,_=>False
def NewsQ (p:Nat->Bool) (g:Nat->Nat) (H:List SO):List Nat->List SO->Prop
 | j::js,e::rs=>qgd p g H[j]? e/\NewsQ p g H js rs
 | [],[]=>True
 | _,_=>False
theorem SetsQ.length {big p g H}:∀ {js:List Nat} {rs:List (Nat × SO)},SetsQ big p g H js rs->rs.length=js.length
 | [],[],_=>rfl
 | _::_,_::_,h=>by simp only [List.length_cons]; rw [SetsQ.length h.2]
 | [],_::_,h=>h.elim
 | _::_,[],h=>h.elim
theorem SetsQ.get {big p g H}:∀ {js:List Nat} {rs:List (Nat × SO)},SetsQ big p g H js rs->∀ (i j:Nat),js[i]? = some j->∃ e,rs[i]? = some (big j,e)/\qgd p g H[j]? e
 | [],[],_,i,j,h=>by simp at h
 | j'::js,x::rs,h,0,j,hE=>by simp at hE; subst hE; exact ⟨x.2,by simp [← h.1.1],h.1.2⟩
 | j'::js,x::rs,h,i+1,j,hE=>by
   obtain ⟨e,a,b⟩:=SetsQ.get h.2 i j (by simpa using hE)
   exact ⟨e,by simpa using a,b⟩
 | [],_::_,h,_,_,_=>h.elim
 | _::_,[],h,_,_,_=>h.elim
theorem NewsQ.length {p g H}:∀ {js:List Nat} {rs:List SO},NewsQ p g H js rs->rs.length=js.length
 | [],[],_=>rfl
 | _::_,_::_,h=>by simp only [List.length_cons]; rw [NewsQ.length h.2]
 | [],_::_,h=>h.elim
 | _::_,[],h=>h.elim
theorem NewsQ.get {p g H}:∀ {js:List Nat} {rs:List SO},NewsQ p g H js rs->∀ (i j:Nat),js[i]? = some j->∃ e,rs[i]? = some e/\qgd p g H[j]? e
 | [],[],_,i,j,h=>by simp at h
 | j'::js,x::rs,h,0,j,hE=>by simp at hE; subst hE; exact ⟨x,by simp,h.1⟩
 | j'::js,x::rs,h,i+1,j,hE=>by
   obtain ⟨e,a,b⟩:=NewsQ.get h.2 i j (by simpa using hE)
   exact ⟨e,by simpa using a,b⟩
 | [],_::_,h,_,_,_=>h.elim
 | _::_,[],h,_,_,_=>h.elim
structure Ifc.EndsQ (I:Ifc) (base:Nat) (keep:List Nat) (r:SumRes) (v:SV) (H:List SO):Prop where
 val:(v.ren (I.out base keep)).Imp r.v
 uv:v.uses (I.seen keep)=true
 sets:SetsQ I.big (I.seen keep) (I.out base keep) H (q1c I.ents 0) r.sets
 news:NewsQ (I.seen keep) (I.out base keep) H keep r.news
theorem qxc {c:Cfg} {O:Nat->Prop} {w0 w:World} {β:Val} {H:List SO} {base:Nat} {f:FuncId} {vs:List Value} (hH:HeapRel0 c.P O w0 β H w)
  (I:Ifc) (hgl:∀ g j,c.glob g=some j->I.known j=true/\∃ l,β (I.big j)=some l/\l.blk=g/\l.off=0) (ha:SV.denL β (SV.renL I.big I.args)=some vs) (hI:I.FitsQ H) {r:SumRes} (keep:List Nat) (hk:∀ j∈keep,I.names.length<=j) (hkn:keep.Nodup)
  (hr:Runs c f I.args I.ents (I.EndsQ base keep r)):SumSem c.P H β w base f vs r:=by
 refine q3z hH I hgl ha hI (q1c I.ents 0) keep (fun j E h ho=>(qce _ _ _).2 ⟨j,E,by omega,h,ho⟩) (fun j hj => ?_) hk hkn (qcg _ _) hr.1 fun hH' hG ha'=>(hr.2 _ _ _ _ _ hH' hG ha').mono fun e w' hcame => ?_
 . obtain ⟨i,E,h,h',ho⟩:=(qce _ _ _).1 hj
   exact ⟨E,by rw [h,Nat.zero_add]; exact h',ho⟩
 . obtain ⟨v,H',x,β',he,h,hle,hv,hH2⟩:=hcame
   exact ⟨v,H',x,β',he,⟨h.val,h.uv,h.sets.length,h.sets.get,h.news.length,h.news.get⟩,hle,hv,hH2⟩
theorem qqc {c:Cfg} (hc:CfgOK c) (n:Nat) {O:Nat->Prop} {w0 w:World} {β:Val} {H:List SO} {base:Nat} {f:FuncId} {vs:List Value} (hH:HeapRel0 c.P O w0 β H w)
  (I:Ifc) (hgl:∀ g j,c.glob g=some j->I.known j=true/\∃ l,β (I.big j)=some l/\l.blk=g/\l.off=0) (ha:SV.denL β (SV.renL I.big I.args)=some vs) (hI:I.FitsQ H) {r:SumRes} (keep:List Nat) (hk:∀ j∈keep,I.names.length<=j) (hkn:keep.Nodup)
  (hob:(qfa c n f I.args I.ents).Ob (I.EndsQ base keep r) fun _=>False):SumSem c.P H β w base f vs r:=qxc hH I hgl ha hI keep hk hkn (q8i hc hob)
structure Ifc.OutO (I:Ifc) (base:Nat) (turn keep:List Nat) (r:SumRes) (v:SV) (H:List SO):Prop where
 val:(v.ren (I.out base keep)).Imp r.v
 uv:v.uses (I.seen keep)=true
 setsLen:r.sets.length=turn.length
 sets:∀ (i j:Nat),turn[i]? = some j->∃ e,r.sets[i]? = some (I.big j,e)/\qge (I.seen keep) (I.out base keep) H[j]? e
 newsLen:r.news.length=keep.length
 news:∀ (i j:Nat),keep[i]? = some j->∃ e,r.news[i]? = some e/\j6g (I.seen keep) (I.out base keep) H[j]? e
end
noncomputable section
variable {α:Type}
def SC.nms:SC->List Nat
 | .rest nm _=>[nm]
 | _=>[]
def SFn.nms:SFn->List Nat
 | .yield nm=>[nm]
 | _=>[]
mutual
def SV.nms:SV->List Nat
 | .ptr a=>[a.nm]
 | .slice a _ c=>a.nm::c.nms
 | .tail a _ _ c=>a.nm::c.nms
 | .map nm=>[nm]
 | .func g xs ys=>app g.nms (app (SV.nmsL xs) (SV.nmsL ys))
 | .iface _ v=>v.nms
 | .agg l=>SV.nmsL l
 | .tuple l=>SV.nmsL l
 | _=>[]
def SV.nmsL:List SV->List Nat
 | []=>[]
 | v::l=>app v.nms (SV.nmsL l)
end
def renO (f:Nat->Nat) (e:SO):SO:=SO.rec (motive:=fun _=>SO) (fun c w el=>.own (c.ren f) w el) (fun c=>.row (c.ren f)) (fun _ _ _ _ _ _ _ _=>.gone) (fun _=>.gone) .gone (fun o=>.obj (o.ren f)) e
theorem given_of {p:Nat->Bool} {g:Nat->Nat} {e:SO} (h:e.keeps p=true) (ho:e.owned=true):qgd p g (some e) (renO g e):=by
 cases e with
 | own c w el =>
   refine .inl ⟨c,w,el,c.ren g,rfl,?_,Cells.Imp.refl _,rfl⟩
   cases c with
   | lst l=>exact h
   | fn=>cases h
   | raw=>trivial
 | row=>cases ho
 | loop=>cases h
 | deferred=>cases h
 | gone=>cases h
 | obj o=>exact .inr ⟨o,o.ren g,rfl,h,fun _ _ x=>x,rfl⟩
end
noncomputable section
variable {α:Type}
theorem q86 {base:Nat} {I:Ifc} {t:Bool} {v:SV} {H:List SO} (ho:q1c I.ents 0=[]) (h:∃ b,v=.bool b/\b.den=t):I.EndsQ base [] ⟨.bool (.sym t),[],[]⟩ v H:=by
 obtain ⟨b,rfl,rfl⟩:=h
 refine ⟨fun β x hx=>hx,rfl,?_,trivial⟩
 rw [ho]
 trivial
end
noncomputable section
open Go.RowKit
theorem q4z {c:Cfg} {O:Nat->Prop} {w0 w:World} {β:Val} {H:List SO} {base:Nat} {f:FuncId} {vs:List Value} (hH:HeapRel0 c.P O w0 β H w)
  (I:Ifc) (hgl:∀ g j,c.glob g=some j->I.known j=true/\∃ l,β (I.big j)=some l/\l.blk=g/\l.off=0) (ha:SV.denL β (SV.renL I.big I.args)=some vs) (hI:I.FitsQ H) {r:SumRes} (turn:List Nat) (ht1:∀ (j:Nat) E,I.ents[j]? = some E->E.owned=true->j∈turn) (ht2:∀ j∈turn,∃ E,I.ents[j]? = some E/\E.owned=true) (htn:turn.Nodup:=by simp)
  (hbody:∃ fn,c.P.funcs[f]? = some fn/\fn.body.isSome=true)
  (hrun:HeapRel c.P (I.ownsQ β) w (I.val β) I.ents w->GlobRel c.glob (I.val β)->SV.denL (I.val β) I.args=some vs->Calls c.P f vs.toArray w (Came c.P (I.ownsQ β) w (I.val β) fun v H2=>∃ keep:List Nat,(∀ j∈keep,I.names.length<=j)/\keep.Nodup/\I.OutQ base turn keep r v H2)):SumSem c.P H β w base f vs r:=by
 intro hfree
 have hH':=Ifc.heapQ hH hI
 have ha':SV.denL (I.val β) I.args=some vs:=by
  rw [SV.denL_ren,SV.denL_uses Ifc.val_known _ hI.uargs] at ha; exact ha
 have hcalls:=hrun hH' (fun g j hg=>let ⟨hk,l,h1,h2⟩:=hgl g j hg; ⟨l,by rw [← Ifc.val_known j hk]; exact h1,h2⟩) ha'
 have hown:∀ j∈turn,∃ e l,H[I.big j]? = some e/\e.owned=true/\β (I.big j)=some l/\I.val β j=some l/\j<I.names.length:=by
  intro j hj
  obtain ⟨E,he,ho⟩:=ht2 j hj
  obtain ⟨e,he',ht⟩:=hI.ent j _ he
  have hu:=hI.uent j _ he
  have hjl:j<I.names.length:=by rw [← hI.len]; exact (List.getElem?_eq_some_iff.1 he).1
  have hpl:e.placed=true\/∃ o,e=.obj o:=by
   cases E with
   | own=>obtain ⟨_,rfl,_⟩:=ht; exact .inl rfl
   | row=>cases ho
   | loop=>exact hu.elim
   | deferred=>exact hu.elim
   | gone=>cases ho
   | obj=>obtain ⟨_,rfl,_⟩:=ht; exact .inr ⟨_,rfl⟩
  obtain ⟨l,hl⟩:=(hH.entries _ _ he').loc hpl
  exact ⟨e,l,he',ht.owned hu ho,hl,by rw [← Ifc.val_known j ((I.known_iff j).2 hjl)]; exact hl,hjl⟩
 have hsets:∀ (keep:List Nat) (v:SV) (H'':List SO),I.OutQ base turn keep r v H''->∀ m e,(m,e)∈r.sets->∃ j∈turn,m=I.big j/\qgd (I.seen keep) (I.out base keep) H''[j]? e/\∃ i:Nat,turn[i]? = some j/\r.sets[i]? = some (m,e):=by
  intro keep v H'' hout m e hm
  obtain ⟨i,hi⟩:=List.mem_iff_getElem?.1 hm
  have hil:=(List.getElem?_eq_some_iff.1 hi).1
  rw [hout.setsLen] at hil
  obtain ⟨e',h1,h2⟩:=hout.sets i _ (List.getElem?_eq_getElem hil)
  rw [hi] at h1
  cases h1
  exact ⟨_,List.getElem_mem hil,rfl,h2,i,List.getElem?_eq_getElem hil,hi⟩
 refine ⟨?_,.inl ⟨hbody,?_⟩⟩
 . intro m e hm
   obtain ⟨e',w',fr,hcame,_⟩:=hcalls []
   obtain ⟨v,H'',x,β'',_,⟨keep,hk,hkn,hout⟩,_⟩:=hcame
   obtain ⟨j,hj,rfl,_⟩:=hsets keep v H'' hout m e hm
   obtain ⟨e0,l,h1,h2,_⟩:=hown j hj
   exact ⟨_,h1,h2⟩
 . intro cs
   obtain ⟨e',w',fr,hcame,hst⟩:=hcalls cs
   refine ⟨e',w',fr,?_,hst⟩
   obtain ⟨v,H'',x,β'',rfl,⟨keep,hk,hkn,hout⟩,hle,hv,hH2⟩:=hcame
   let βb:Val:=fun n=>if base<=n/\n<base+keep.length then (keep[n - base]?).bind β'' else β n
   have hlenn:r.news.length=keep.length:=hout.newsLen
   have hfree':∀ i,i<keep.length->β (base+i)=none:=fun i hi=>hfree i (by rw [hlenn]; exact hi)
   have hβle:β.le βb:=by
    intro n l hn
    show (if _ then _ else _)=_
    rw [if_neg]
    . exact hn
    . rintro ⟨h1,h2⟩
      have:=hfree' (n - base) (by omega)
      rw [show base+(n - base)=n from by omega,hn] at this; cases this
   have hseen:∀ j,I.seen keep j=true->βb (I.out base keep j)=β'' j:=by
    intro j hj
    unfold Ifc.seen at hj
    unfold Ifc.out
    cases hkn':I.known j with
    | true =>
      rw [boolC_true]
      have hjl:=(I.known_iff j).1 hkn'
      obtain ⟨E,hE⟩:∃ E,I.ents[j]? = some E:=⟨_,List.getElem?_eq_getElem (by rw [hI.len]; exact hjl)⟩
      obtain ⟨e,he,htk⟩:=hI.ent j E hE
      have hu:=hI.uent j E hE
      have hpl:e.placed=true\/∃ o,e=.obj o:=by
       cases E with
       | own cc ww el=>obtain ⟨c1,rfl,_⟩:=htk; exact .inl rfl
       | row cc=>obtain ⟨c1,rfl | ⟨ww,el,rfl⟩,_⟩:=htk <;> exact .inl rfl
       | loop=>exact hu.elim
       | deferred=>exact hu.elim
       | gone=>obtain ⟨_,_,h⟩:=htk; exact h
       | obj=>obtain ⟨_,rfl,_⟩:=htk; exact .inr ⟨_,rfl⟩
      obtain ⟨l,hl⟩:=(hH.entries _ _ he).loc hpl
      rw [hβle _ _ hl]
      have:I.val β j=some l:=by rw [← Ifc.val_known j hkn']; exact hl
      rw [hle _ _ this]
    | false =>
      rw [hkn',boolC_false,memN_iff] at hj
      rw [boolC_false]
      have h1:=qrg hj
      have h2:=(List.getElem?_eq_some_iff.1 h1).1
      show (if _ then _ else _)=_
      rw [if_pos (by omega),show base+idxN j keep - base=idxN j keep from by omega,h1]; rfl
   have hrenOwn:∀ (j:Nat) (e:SO),qgd (I.seen keep) (I.out base keep) H''[j]? e->I.seen keep j=true->e.owned=true/\OwnRel c.P βb w' (I.out base keep j) e:=by
    intro j e hg hs
    rcases hg with ⟨cc,ww,el,c',he,hu,himp,rfl⟩ | ⟨o,o',he,hu,himp,rfl⟩
    . obtain ⟨l,vs,rest,lo,hi,hl,h0,hcl,hh,hfz,hw,hcap⟩:=hH2.entries j _ he
      exact ⟨rfl,l,vs,rest,lo,hi,(hseen j hs).trans hl,h0,himp _ _ ((CellsRel.ren hu hseen).2 hcl),hh,hfz,hw,hcap⟩
    . obtain ⟨l,y,hl,h0,hd,hh⟩:=hH2.entries j _ he
      exact ⟨rfl,l,y,(hseen j hs).trans hl,h0,himp _ _ (by rw [SObj.den_ren,SObj.den_uses (β:=fun n=>βb (I.out base keep n)) (β':=β'') hseen hu]; exact hd),hh⟩
   have hatJ:∀ (j:Nat) (e:SO),qgd (I.seen keep) (I.out base keep) H''[j]? e->∃ e0 l,H''[j]? = some e0/\e0.owned=true/\β'' j=some l:=by
    intro j e hg
    rcases hg with ⟨cc,ww,el,c',he,_⟩ | ⟨o,o',he,_⟩
    . obtain ⟨l,vs2,rest,lo,hi2,hl,_⟩:=hH2.entries j _ he
      exact ⟨_,l,he,rfl,hl⟩
    . obtain ⟨l,y,hl,_⟩:=hH2.entries j _ he
      exact ⟨_,l,he,rfl,hl⟩
   have hseenT:∀ j∈turn,I.seen keep j=true/\I.out base keep j=I.big j:=by
    intro j hj
    obtain ⟨_,_,_,_,_,_,hjl⟩:=hown j hj
    have:=(I.known_iff j).2 hjl
    unfold Ifc.seen Ifc.out
    rw [this]; exact ⟨rfl,rfl⟩
   have hseenK:∀ j∈keep,I.seen keep j=true/\I.known j=false:=by
    intro j hj
    have hnk:I.known j=false:=by
     cases hx:I.known j with
     | false=>rfl
     | true=>have:=(I.known_iff j).1 hx; have:=hk j hj; omega
    unfold Ifc.seen
    rw [hnk]; exact ⟨qpg hj,rfl⟩
   have hnewsAt:∀ (i:Nat) (e:SO),r.news[i]? = some e->∃ j,keep[i]? = some j/\qgd (I.seen keep) (I.out base keep) H''[j]? e:=by
    intro i e hi
    have hil:=(List.getElem?_eq_some_iff.1 hi).1
    rw [hlenn] at hil
    obtain ⟨e',h1,h2⟩:=hout.news i _ (List.getElem?_eq_getElem hil)
    rw [hi] at h1; cases h1
    exact ⟨_,List.getElem?_eq_getElem hil,h2⟩
   refine ⟨x,βb,rfl,?_,⟨hβle,hH2.keep.os,hH2.keep.tape,hH2.keep.output,hH2.keep.drawn,hH2.keep.size,?_,?_,?_,?_,?_,?_⟩⟩
   . refine hout.val _ _ ?_
     rw [SV.den_ren,SV.den_uses hseen _ hout.uv]; exact hv
   . intro n hn
     rw [hlenn] at hn
     show (if _ then _ else _)=_
     rw [if_neg (by omega)]
   . intro b hb hno
     refine hH2.keep.block b hb ?_
     rintro ⟨j,E,l,hj,ho,hl,rfl⟩
     have hjt:=ht1 j E hj ho
     obtain ⟨i,hi⟩:=List.mem_iff_getElem?.1 hjt
     obtain ⟨e,he,_⟩:=hout.sets i j hi
     exact hno (I.big j) e l (List.mem_of_getElem? he) hl rfl
   . intro m e e' h1 h2
     obtain ⟨j,hj,hm1,hg1,i1,ht1',hs1⟩:=hsets keep v H'' hout m e h1
     obtain ⟨k,hk',hm2,hg2,i2,ht2',hs2⟩:=hsets keep v H'' hout m e' h2
     obtain ⟨_,_,_,_,_,_,hjl⟩:=hown j hj
     obtain ⟨_,_,_,_,_,_,hkl⟩:=hown k hk'
     have hjk:k=j:=hI.nodup k j (I.big k) (Ifc.big_get hkl) (by rw [← hm2,hm1]; exact Ifc.big_get hjl)
     subst hjk
     have:i1=i2:=(List.getElem?_inj (List.getElem?_eq_some_iff.1 ht1').1 htn).1 (ht1'.trans ht2'.symm)
     subst this
     rw [hs1] at hs2
     exact (Prod.mk.inj (Option.some.inj hs2)).2
   . intro m e hm
     obtain ⟨j,hj,rfl,hg,_⟩:=hsets keep v H'' hout m e hm
     obtain ⟨hs,hb⟩:=hseenT j hj
     rw [← hb]
     exact (hrenOwn j e hg hs).2
   . intro i e hi
     obtain ⟨j,hj,hg⟩:=hnewsAt i e hi
     have hjm:=List.mem_of_getElem? hj
     obtain ⟨hs,hnk⟩:=hseenK j hjm
     have hout':I.out base keep j=base+i:=by
      unfold Ifc.out
      rw [hnk,boolC_false]
      have h1:=qrg hjm
      have:idxN j keep=i:=(List.getElem?_inj (List.getElem?_eq_some_iff.1 h1).1 hkn).1 (h1.trans hj.symm)
      rw [this]
     obtain ⟨ho,hor⟩:=hrenOwn j e hg hs
     refine ⟨ho,hout'▸hor,?_⟩
     obtain ⟨e0,l,he,he0,hl⟩:=hatJ j e hg
     refine ⟨l,by rw [← hout',hseen j hs]; exact hl,.inl ?_⟩
     rcases hH2.fresh j _ l he he0 hl with h1 | ⟨k,E,lk,hk1,hko,hk2,hk3⟩
     . exact h1
     . exfalso
       have hkt:=ht1 k E hk1 hko
       obtain ⟨i3,hi3⟩:=List.mem_iff_getElem?.1 hkt
       obtain ⟨e3,_,hg3⟩:=hout.sets i3 k hi3
       obtain ⟨e4,l4,he4,ho4,hl4⟩:=hatJ k e3 hg3
       obtain ⟨_,l2,_,_,hb2,hv2,hkl⟩:=hown k hkt
       rw [hb2] at hk2; cases hk2
       rw [hle _ _ hv2] at hl4; cases hl4
       refine hH2.sep k j _ _ lk l he4 he ho4 he0 ?_ (hle _ _ hv2) hl hk3
       have:=hk j hjm; omega
   . intro i j l l' hij hi hj hl hl'
     rw [hlenn] at hi hj
     have hone:∀ i,i<keep.length->∀ l,βb (base+i)=some l->∃ k,keep[i]? = some k/\β'' k=some l:=by
      intro i hi l hl
      have hl:(if base<=base+i/\base+i<base+keep.length then (keep[base+i - base]?).bind β'' else β (base+i))=some l:=hl
      rw [if_pos (by omega),show base+i - base=i from by omega,List.getElem?_eq_getElem hi] at hl
      exact ⟨_,List.getElem?_eq_getElem hi,hl⟩
     obtain ⟨k1,hk1,hb1⟩:=hone i hi l hl
     obtain ⟨k2,hk2,hb2⟩:=hone j hj l' hl'
     obtain ⟨n1,_,hg1⟩:=hout.news i k1 hk1
     obtain ⟨n2,_,hg2⟩:=hout.news j k2 hk2
     obtain ⟨e1,_,he1,ho1,_⟩:=hatJ k1 n1 hg1
     obtain ⟨e2,_,he2,ho2,_⟩:=hatJ k2 n2 hg2
     refine hH2.sep k1 k2 _ _ l l' he1 he2 ho1 ho2 (fun h => ?_) hb1 hb2
     subst h
     exact hij ((List.getElem?_inj (List.getElem?_eq_some_iff.1 hk1).1 hkn).1 (hk1.trans hk2.symm))
def Ifc.EndsX (I:Ifc) (base:Nat) (r:SumRes) (v:SV) (H:List SO):Prop:=∃ keep:List Nat,(∀ j∈keep,I.names.length<=j)/\keep.Nodup/\I.EndsQ base keep r v H
end
end Go.Sim
namespace Go.Proofs.YthkgcljngalafaaDoor.Aes
noncomputable section
open Go.Sim
open Go.Proofs
variable {α:Type}
theorem qlb {c:Cfg} {f:FuncId} {args:List SV} {H:List SO} {D E:SV->List SO->Prop} (h:Runs c f args H D) (hde:∀ v H,D v H->E v H):Runs c f args H E :=
 ⟨h.1,fun O w0 w β vs hH hG ha=>(h.2 O w0 w β vs hH hG ha).mono fun _ _ ⟨v,H',x,β',h1,h2,h3⟩=>⟨v,H',x,β',h1,hde _ _ h2,h3⟩⟩
end
end Go.Proofs.YthkgcljngalafaaDoor.Aes
namespace Go.Sim
noncomputable section
theorem q29 {js:List Nat} {M:Cut} {names:List Nat} {t:Tree} {K:(SV × List (Option SO)) ⊕ Seen->Prop} (h:∀ z:Nat->Nat->Nat,∃ ds ps r,outL js M names t ds z=(ps,some r)/\(∀ p∈ps,p)/\K r) {D:SV->List SO->Prop} {S:SS->Prop}
  (hD:∀ v es,K (.inl (v,es))->∀ H:List SO,js.map (fun j=>H[j]?)=es->D v H) (hS:∀ V,K (.inr V)->∀ s,qvi M names s=V->S s):t.Ob D S:=by
 have z0:Nat->Nat->Nat:=fun _ _=>0
 induction t with
 | done v' H =>
   obtain ⟨ds,ps,r,h,_,hk⟩:=h z0
   have h':([],some (.inl (v',mapN (fun j=>nth H j) js)))=(ps,some r):=h
   have h1:=Option.some.inj (Prod.mk.inj h').2
   rw [← h1] at hk
   refine hD v' _ hk H ?_
   rw [qja]
   exact List.map_congr_left fun j _=>(qca H j).symm
 | stop s =>
   obtain ⟨ds,ps,r,h,_,hk⟩:=h z0
   have h':([],some (.inr (qvi M names s)))=(ps,some r):=h
   have h1:=Option.some.inj (Prod.mk.inj h').2
   rw [← h1] at hk
   exact hS _ hk s rfl
 | need p t ih =>
   have h':∀ z,∃ ds ps r,(p::(outL js M names t ds z).1,(outL js M names t ds z).2)=(ps,some r)/\(∀ p∈ps,p)/\K r:=h
   refine ⟨?_,ih fun z => ?_⟩
   . obtain ⟨ds,ps,r,h1,h2,_⟩:=h' z0
     exact h2 p (by rw [← (Prod.mk.inj h1).1]; exact List.mem_cons_self)
   . obtain ⟨ds,ps,r,h1,h2,h3⟩:=h' z
     exact ⟨ds,_,r,Prod.ext rfl (Prod.mk.inj h1).2,fun q hq=>h2 q (by rw [← (Prod.mk.inj h1).1]; exact List.mem_cons_of_mem _ hq),h3⟩
 | fork b t f iht ihf =>
   have key:∀ z,∃ rs ps r,((boolC b (outL js M names t rs z) (outL js M names f rs z))=(ps,some r))/\(∀ p∈ps,p)/\K r:=by
    intro z
    obtain ⟨ds,ps,r,h1,h2,h3⟩:=h z
    cases ds with
    | nil=>cases (Prod.mk.inj (show ([],none)=(ps,some r) from h1)).2
    | cons d rs =>
      have h1:((b=d)::(boolC d (outL js M names t rs z) (outL js M names f rs z)).1,(boolC d (outL js M names t rs z) (outL js M names f rs z)).2)=(ps,some r):=h1
      have hb:b=d:=h2 _ (by rw [← (Prod.mk.inj h1).1]; exact List.mem_cons_self)
      exact ⟨rs,_,r,Prod.ext rfl (by rw [hb]; exact (Prod.mk.inj h1).2),fun q hq=>h2 q (by rw [← (Prod.mk.inj h1).1]; refine List.mem_cons_of_mem _ ?_; rw [hb] at hq; exact hq),h3⟩
   refine ⟨fun ht=>iht fun z => ?_,fun hf=>ihf fun z => ?_⟩
   . obtain ⟨rs,ps,r,h1,h2⟩:=key z
     rw [ht] at h1
     exact ⟨rs,ps,r,h1,h2⟩
   . obtain ⟨rs,ps,r,h1,h2⟩:=key z
     rw [hf] at h1
     exact ⟨rs,ps,r,h1,h2⟩
 | stuck =>
   obtain ⟨ds,ps,r,h1,_⟩:=h z0
   cases (Prod.mk.inj (show ([],none)=(ps,some r) from h1)).2
 | any k ih =>
   intro y
   let c:(Nat->Nat->Nat)->Nat->Nat->Nat:=fun z i=>Nat.rec (motive:=fun _=>Nat->Nat) y (fun j _=>z j) i
   exact ih y fun z=>h (c z)
def SeenTurn {A:Type} (k0:Nat) (C:A->Cut) (Q:A->Prop) (M:Cut) (names:List Nat) (V:Seen):Prop :=
 ∃ (a:A) (N:Nat) (ms:List (Nat × Nat × SV)) (es:List (Nat × HP)),Q a/\V=qeb ms es (qqa names N (C a))/\boolC (q5a k0 names M (C a)) (allN qwa (C a).heap) false=true /\
   (∀ m∈ms,∀ (p:SP) (u:Option SV),(C a).frames[m.1]? = some p->p.tmps[m.2.1]? = some u->∃ w,u=some w/\m.2.2.Imp (w.ren (qbb names N)))/\(∀ e∈es,∀ E0,(C a).heap[e.1]? = some E0->ImpE (qbb names N) (some e.2) E0)
theorem SeenTurn.of {A:Type} {k0:Nat} {C:A->Cut} {Q:A->Prop} {M:Cut} {names:List Nat} {N:Nat} (a:A) (hq:Q a) (hn:boolC (q5a k0 names M (C a)) (allN qwa (C a).heap) false=true):SeenTurn k0 C Q M names (qqa names N (C a)) :=
 ⟨a,N,[],[],hq,rfl,hn,by simp,by simp⟩
theorem q39 {A:Type} {c:Cfg} {k0:Nat} {C:A->Cut} {Q:A->Prop} {D:SV->List SO->Prop} {s:SS} (st:Option (Nat × Nat)) (n:Nat) {M:Cut} {js names:List Nat} {K:SV × List (Option SO)->Prop}
  (h:∀ z,∃ ds ps r,outL js M names (sim1 (c.at st) n s) ds z=(ps,some r)/\(∀ p∈ps,p)/\Sum.rec (motive:=fun _=>Prop) K (SeenTurn k0 C Q M names) r)
  (hD:∀ v es,K (v,es)->∀ H:List SO,js.map (fun j=>H[j]?)=es->D v H):qbd c k0 C Q D s :=
 ⟨st,n,q29 h (fun v es hk H hH=>hD v es hk H hH) fun V hk s hv=>by
  obtain ⟨a,N,ms,es,hq,e,hn,hT,hE⟩:=(hk:SeenTurn k0 C Q M names V)
  exact qhm a hq names (qy0 (N:=N) ms es (by rw [hv]; exact e) hn hT hE)⟩
end
noncomputable section
structure MapOK (es:List MapEntry) (c:Nat):Prop where
 nd:(es.map fun e=>e.born).Nodup
 lt:∀ e∈es,e.born<c
structure VisOK (es:List MapEntry) (seen:List Nat):Prop where
 nd:seen.Nodup
 mem:∀ b∈seen,∃ e∈es,e.born=b
theorem jde (es:List MapEntry):VisOK es []:=⟨List.nodup_nil,fun _ h=>by cases h⟩
theorem qjy:∀ {es:List MapEntry},(es.map fun e=>e.born).Nodup->∀ {e e'},e∈es->e'∈es->e.born=e'.born->e=e'
 | [],_,_,_,h,_,_=>by cases h
 | x::es,hn,e,e',h,h',hb=>by
   rw [List.map_cons,List.nodup_cons] at hn
   rcases List.mem_cons.1 h with h1 | h1
   . rcases List.mem_cons.1 h' with h2 | h2
     . rw [h1,h2]
     . exact absurd (show x.born∈es.map fun e=>e.born from List.mem_map.2 ⟨e',h2,by rw [← h1,hb]⟩) hn.1
   . rcases List.mem_cons.1 h' with h2 | h2
     . exact absurd (show x.born∈es.map fun e=>e.born from List.mem_map.2 ⟨e,h1,by rw [← h2,hb]⟩) hn.1
     . exact qjy hn.2 h1 h2 hb
theorem qqt {es:List MapEntry} (hn:(es.map fun e=>e.born).Nodup) {e:MapEntry} (h:e∈es):getB es e.born=e:=by
 unfold getB
 cases hf:es.find? fun x=>x.born == e.born with
 | none=>exact absurd (List.find?_eq_none.1 hf e h) (by simp)
 | some x =>
   have h1:=List.find?_some hf
   have h2:=List.mem_of_find?_eq_some hf
   exact qjy hn h2 h (by simpa using h1)
theorem q7u (seen:List Nat) (b:Nat):q1e (app seen [b])=b:=by
 unfold q1e
 rw [q1a]; simp
theorem left_mem {es:List MapEntry} {seen:List Nat} {e:MapEntry}:e∈q7a es seen↔e∈es/\e.born ∉ seen:=by
 unfold q7a
 rw [List.mem_filter]
 simp
theorem q49 {l:List MapEntry} (h:l.isEmpty=false) (z:Nat):q0e l z∈l:=by
 have hl:l≠[]:=by intro e; subst e; cases h
 have h0:0<l.length:=List.length_pos_iff.2 hl
 unfold q0e
 have hz:z % l.length<l.length:=Nat.mod_lt _ h0
 rw [List.getElem?_eq_getElem hz]
 exact List.getElem_mem hz
theorem jee {es:List MapEntry} {seen:List Nat} {e:MapEntry} (h:e∈q7a es seen):(q7a es (app seen [e.born])).length<(q7a es seen).length:=by
 have h1:q7a es (app seen [e.born])=(q7a es seen).filter fun x => !(x.born == e.born):=by
  unfold q7a
  rw [q1a,List.filter_filter]
  congr 1
  funext x
  rw [List.contains_eq_any_beq,List.contains_eq_any_beq,List.any_append]
  simp [Bool.and_comm,BEq.comm]
 rw [h1]
 exact List.length_filter_lt_length_iff_exists.2 ⟨e,h,by simp⟩
theorem q96 {es:List MapEntry} {seen:List Nat} (h:(q7a es seen).isEmpty=true):∀ e∈es,e.born∈seen:=by
 intro e he
 have hn:q7a es seen=[]:=by simpa using h
 by_cases c:e.born∈seen
 . exact c
 . have:e∈q7a es seen:=left_mem.2 ⟨he,c⟩
   rw [hn] at this; cases this
theorem q59 {es:List MapEntry} {seen:List Nat} (h:VisOK es seen) {e:MapEntry} (he:e∈q7a es seen):VisOK es (app seen [e.born]):=by
 obtain ⟨h1,h2⟩:=left_mem.1 he
 rw [q1a]
 refine ⟨List.nodup_append.2 ⟨h.nd,by simp,fun a ha b hb => ?_⟩,fun b hb => ?_⟩
 . rw [List.mem_singleton] at hb
   rintro rfl
   exact h2 (hb▸ha)
 . rcases List.mem_append.1 hb with hb | hb
   . exact h.mem b hb
   . exact ⟨e,h1,(List.mem_singleton.1 hb).symm⟩
theorem q69 {es:List MapEntry} {seen:List Nat} {c:Nat} (h:MapOK es c):¬ qb2 es seen c:=by
 rintro ⟨_,h1,h2⟩
 cases es with
 | nil=>exact h1 rfl
 | cons e es =>
   have:=h2 e (by simp)
   have:=h.lt e (by simp)
   omega
theorem qrs {β:Type} [DecidableEq β]:∀ {l l':List β},l.Nodup->l'.Nodup->(∀ x,x∈l↔x∈l')->l.Perm l'
 | [],l',_,_,h=>by
   cases l' with
   | nil=>exact .refl _
   | cons a l'=>exact absurd ((h a).2 (by simp)) (by simp)
 | a::l,l',hn,hn',h=>by
   rw [List.nodup_cons] at hn
   have ha:a∈l':=(h a).1 (by simp)
   refine .trans (.cons a (qrs hn.2 (hn'.erase a) fun x => ?_)) (List.perm_cons_erase ha).symm
   rw [hn'.mem_erase_iff]
   constructor
   . intro hx
     exact ⟨fun e=>hn.1 (e▸hx),(h x).1 (by simp [hx])⟩
   . rintro ⟨h1,h2⟩
     rcases List.mem_cons.1 ((h x).2 h2) with e | e
     . exact absurd e h1
     . exact e
theorem jfe {es:List MapEntry} {seen:List Nat} {c:Nat} (hm:MapOK es c) (hv:VisOK es seen) (h:(q7a es seen).isEmpty=true):(seen.map (getB es)).Perm es:=by
 have h1:seen.Perm (es.map fun e=>e.born):=qrs hv.nd hm.nd fun x=>by
  constructor
  . intro hx
    obtain ⟨e,he,hb⟩:=hv.mem x hx
    exact List.mem_map.2 ⟨e,he,hb⟩
  . intro hx
    obtain ⟨e,he,rfl⟩:=List.mem_map.1 hx
    exact q96 h e he
 have h2:=h1.map (getB es)
 rw [List.map_map] at h2
 refine h2.trans ?_
 have:es.map (getB es ∘ fun e=>e.born)=es:=by
  conv=>rhs; rw [← List.map_id es]
  exact List.map_congr_left fun e he=>qqt hm.nd he
 rw [this]
end
noncomputable section
theorem qa7 {c:Cfg} {O:Nat->Prop} {w0 w:World} {β:Val} {H:List SO} {base:Nat} {f:FuncId} {vs:List Value} (hH:HeapRel0 c.P O w0 β H w)
  (I:Ifc) (hgl:∀ g j,c.glob g=some j->I.known j=true/\∃ l,β (I.big j)=some l/\l.blk=g/\l.off=0) (ha:SV.denL β (SV.renL I.big I.args)=some vs) (hI:I.FitsQ H) {r:SumRes}
  (hr:Runs c f I.args I.ents (I.EndsX base r)):SumSem c.P H β w base f vs r:=by
 refine q4z hH I hgl ha hI (q1c I.ents 0) (fun j E h ho=>(qce _ _ _).2 ⟨j,E,by omega,h,ho⟩) (fun j hj => ?_) (qcg _ _) hr.1 fun hH' hG ha'=>(hr.2 _ _ _ _ _ hH' hG ha').mono fun e w' hcame => ?_
 . obtain ⟨i,E,h,h',ho⟩:=(qce _ _ _).1 hj
   exact ⟨E,by rw [h,Nat.zero_add]; exact h',ho⟩
 . obtain ⟨v,H',x,β',he,⟨keep,hk,hkn,h⟩,hle,hv,hH2⟩:=hcame
   exact ⟨v,H',x,β',he,⟨keep,hk,hkn,h.val,h.uv,h.sets.length,h.sets.get,h.news.length,h.news.get⟩,hle,hv,hH2⟩
end
noncomputable section
theorem qoh {P:Program} {O:Nat->Prop} {w0 w:World} {β:Val} {H:List SO} {base:Nat} {f:FuncId} {vs:List Value} (hH:HeapRel0 P O w0 β H w) {n:Nat} {k v k' v':MSh} {es:List MapEntry} {c:Nat} (hn:H[n]? = some (.obj (.amap k v es c))) {r:SV} {news:List SO}
  (h:SumSem P H β w base f vs ⟨r,[(n,.obj (.amap k' v' es c))],news⟩):SumSem P H β w base f vs ⟨r,[],news⟩:=by
 intro hf
 obtain ⟨_,h2⟩:=h hf
 have hx:∃ l,β n=some l/\w.heap[l.blk]? = some (.map es.toArray c):=by
  obtain ⟨l,x,hl,_,hd,hh⟩:OwnRel P β w n (.obj (.amap k v es c)):=(hH.entries n _ hn).toOwn rfl
  exact ⟨l,hl,by rw [hh,(SObj.amap_den.1 hd).2]⟩
 obtain ⟨l,hl,hh⟩:=hx
 have key:∀ {β':Val} {w':World},Eff P β w base [(n,.obj (.amap k' v' es c))] news β' w'->Eff P β w base [] news β' w':=fun {β' w'} hE=>by
  obtain ⟨l',x',hl',_,hd',hh'⟩:OwnRel P β' w' n (.obj (.amap k' v' es c)):=hE.turned n _ (by simp)
  have e1:l'=l:=by rw [hE.le _ _ hl] at hl'; exact (Option.some.inj hl').symm
  rw [(SObj.amap_den.1 hd').2,e1] at hh'
  refine ⟨hE.le,hE.os,hE.tape,hE.output,hE.drawn,hE.size,hE.dom,fun b hb _ => ?_,fun _ _ _ h=>(by cases h),fun _ _ h=>(by cases h),fun i e he => ?_,hE.apart⟩
  . by_cases c':l.blk=b
    . rw [← c',hh,hh']
    . exact hE.frame b hb fun m e l2 hm hl2=>by
       have hm:=List.mem_singleton.1 hm
       cases hm
       rw [hl] at hl2; cases hl2
       exact c'
  . obtain ⟨h1,h2,l2,h3,h4⟩:=hE.made i e he
    refine ⟨h1,h2,l2,h3,.inl ?_⟩
    rcases h4 with h4 | ⟨m,l3,h5,_⟩
    . exact h4
    . have h5:=List.mem_singleton.1 h5
      cases h5
 refine ⟨fun _ _ h=>(by cases h),?_⟩
 rcases h2 with ⟨hb,hc⟩ | ⟨v1,w1,β1,h3,h4,h5⟩
 . exact .inl ⟨hb,hc.mono fun e w' ⟨v1,β1,h3,h4,h5⟩=>⟨v1,β1,h3,h4,key h5⟩⟩
 . exact .inr ⟨v1,w1,β1,h3,h4,key h5⟩
end
end Go.Sim
namespace Go.Proofs.YthkgcljngalafaaDoor.Aes
noncomputable section
open Go.Sim
open Go.Proofs
variable {α:Type}
set_option maxRecDepth 1000000
theorem qza {k:IntKind} {a b:SI} (h:a.den=b.den):(SV.int k a).Imp (.int k b):=fun _ _ hx=>by
 simp only [SV.den] at hx ⊢
 rw [← h]; exact hx
theorem q5o {l m:List SV} (h:SV.ImpL l m):(SV.agg l).Imp (.agg m):=fun β x hx=>by
 simp only [SV.den] at hx ⊢
 cases hl:SV.denL β l with
 | none=>rw [hl] at hx; cases hx
 | some vs=>rw [h β _ hl]; rw [hl] at hx; exact hx
theorem q2c {p:Prop} (h:p) (n:Nat):∀ q∈repN p n,q:=by
 intro q hq
 rw [q9c] at hq
 rw [List.eq_of_mem_replicate hq]
 exact h
theorem qrt {l m:List Prop} (h:∀ p∈l,p) (h':∀ p∈m,p):∀ p∈app l m,p:=by
 intro p hp
 rw [q1a] at hp
 rcases List.mem_append.1 hp with hp | hp
 . exact h p hp
 . exact h' p hp
theorem qtd {C:Cut} {i j:Nat} {v:SV} (h:((C.frames[i]?).bind fun p=>p.tmps[j]?)=some (some v)) {p:SP} {u:Option SV} (hp:C.frames[i]? = some p) (hu:p.tmps[j]? = some u) {w:SV} {f:Nat->Nat} (hi:w.Imp (v.ren f)):∃ x,u=some x/\w.Imp (x.ren f):=by
 rw [hp] at h
 simp only [Option.bind_some,hu,Option.some.injEq] at h
 exact ⟨v,h,hi⟩
def is0 (n:SN):Bool:=match n with
 | .lit 0=>true
 | _=>false
theorem qjm {n:SN} (h:is0 n=true):n=.lit 0:=by
 unfold is0 at h
 split at h
 . rfl
 . cases h
def cB (p:Prop):Bool:=@decide p (Classical.propDecidable _)
theorem q3c {p:Prop} (h:p):cB p=true:=@decide_eq_true _ (Classical.propDecidable _) h
theorem qtb {p:Prop} (h:¬ p):cB p=false:=@decide_eq_false _ (Classical.propDecidable _) h
theorem cBi {p:Prop}:cB p=true↔p:=by
 constructor
 . intro h
   by_cases hp:p
   . exact hp
   . rw [qtb hp] at h; cases h
 . exact q3c
def i64V (v:SV):Option SI:=v.asInt none fun k n=>boolC (i64K k) (some n) none
theorem qgi {v:SV} {n:SI} (h:i64V v=some n):v=.int .i64 n:=by
 cases v <;> first | (cases h; done) | skip
 rename_i k m
 cases k <;> first | (cases h; rfl) | (cases h; done)
def qss (v:SV):Option Nat:=match v with
 | .ptr ⟨nm,.lit 0⟩=>some nm
 | _=>none
theorem qkm {v:SV} {nm:Nat} (h:qss v=some nm):v=.ptr ⟨nm,.lit 0⟩:=by
 unfold qss at h
 split at h
 . cases h; rfl
 . cases h
def qky (e:SO):Option ((MSh × MSh) × List MapEntry × Nat):=match e with
 | .obj (.amap k v es c)=>some ((k,v),es,c)
 | _=>none
theorem q5z {e:SO} {r:(MSh × MSh) × List MapEntry × Nat} (h:qky e=some r):e=.obj (.amap r.1.1 r.1.2 r.2.1 r.2.2):=by
 unfold qky at h
 split at h
 . cases h; rfl
 . cases h
theorem out1 {I:Ifc} {base nm:Nat} (h:I.names.length<=nm):I.out base [nm] nm=base:=by
 unfold Ifc.out
 have hk:I.known nm=false:=by
  unfold Ifc.known
  rw [qha]
  cases hb:Nat.blt nm I.names.length with
  | false=>rfl
  | true=>have:nm<I.names.length:=Nat.le_of_ble_eq_true hb; omega
 rw [hk]
 show base+boolC (Nat.beq nm nm) 0 _=base
 rw [Nat.beq_refl]; rfl
theorem memN1 (q:Nat):memN q [q]=true:=by
 show boolC (Nat.beq q q) true _=true
 rw [Nat.beq_refl]; rfl
theorem qhw (I:Ifc) (nm:Nat):I.seen [nm] nm=true:=by
 unfold Ifc.seen
 cases I.known nm with
 | true=>rfl
 | false=>exact memN1 nm
def j0:Junk:=⟨fun _ _=>undef,fun _ _=>undef⟩
def qiw (e:SO):Option (((Nat->Value) × Nat) × Bool × TypeId):=match e with
 | .own (.raw V n) wh el=>some ((V,n),wh,el)
 | _=>none
theorem q13 {e:SO} {r:((Nat->Value) × Nat) × Bool × TypeId} (h:qiw e=some r):e=.own (.raw r.1.1 r.1.2) r.2.1 r.2.2:=by
 unfold qiw at h
 split at h
 . cases h; rfl
 . cases h
def cfgP0:Cfg:=qbg (qkc [])
theorem cfgP0OK:CfgOK cfgP0:=qjd (by simp)
def cndQ (v m:Nat):Nat->Nat->List Prop:=Nat.rec (motive:=fun _=>Nat->Nat->List Prop) (fun _ _=>[]) (fun _ ih j x=>Nat.rec (motive:=fun _=>List Prop) [decide (v=j)=true] (fun y _=>(decide (v=j)=false)::ih (Nat.succ j) y) x) m
end
noncomputable section
open Go.Sim
open Go.Proofs
variable {α:Type}
abbrev Dg:={ s:ByteArray // s.size=32 }
abbrev Mk:=Int × Dg
def Dg.at (d:Dg) (j:Nat):BitVec 8:=(d.1.data.getD j 0).toBitVec
def dgOf (X:Nat->BitVec 8):Dg:=⟨⟨((List.range 32).map fun j=>UInt8.ofBitVec (X j)).toArray⟩,by show (List.toArray _).size=32; simp⟩
theorem qjc (X:Nat->BitVec 8) {j:Nat} (h:j<32):(dgOf X).at j=X j:=by
 unfold Dg.at dgOf
 simp [h]
theorem q3f {d e:Dg} (h:∀ j,j<32->d.at j=e.at j):d=e:=by
 obtain ⟨⟨d⟩,hd⟩:=d
 obtain ⟨⟨e⟩,he⟩:=e
 have hd:d.size=32:=hd
 have he:e.size=32:=he
 apply Subtype.ext
 show ByteArray.mk d=ByteArray.mk e
 congr 1
 refine Array.ext (by omega) fun i h1 h2 => ?_
 have:=h i (by omega)
 unfold Dg.at at this
 simp only [Array.getD_eq_getD_getElem?,Array.getElem?_eq_getElem h1,Array.getElem?_eq_getElem h2,Option.getD_some] at this
 exact UInt8.toBitVec_inj.1 this
theorem q8u (d:Dg):dgOf d.at=d:=q3f fun _ hj=>qjc _ hj
instance:Inhabited Mk:=⟨(0,dgOf fun _=>0#8)⟩
def mkC (m:Mk):List Value:=.int .i64 m.1::(List.range 32).map fun j=>.int .u8 ((m.2.at j).toNat:Int)
theorem q6o (m:Mk):(mkC m).length=33:=by simp [mkC]
theorem qdf (m:Mk):(mkC m)[0]? = some (.int .i64 m.1):=rfl
theorem qje (m:Mk) {j:Nat} (h:j<32):(mkC m)[j+1]? = some (.int .u8 ((m.2.at j).toNat:Int)):=by
 unfold mkC
 simp [h]
def keyM (m:Mk):Value:=.agg (mkC m).toArray
def mkOf (v:Value):Mk:=(vNum (q6f v 0),dgOf fun j=>BitVec.ofInt 8 (vNum (q6f v (j+1))))
theorem qak (m:Mk) (j:Nat):q6f (keyM m) j=(mkC m).getD j undef:=by
 unfold q6f keyM
 simp
theorem qef (x:BitVec 8):BitVec.ofInt 8 (x.toNat:Int)=x:=by
 apply BitVec.eq_of_toNat_eq
 rw [BitVec.toNat_ofInt]
 have:=x.isLt
 omega
theorem qsj (m:Mk):mkOf (keyM m)=m:=by
 unfold mkOf
 refine Prod.ext ?_ (q3f fun j hj => ?_)
 . show vNum (q6f (keyM m) 0)=m.1
   rw [qak,List.getD_eq_getElem?_getD,qdf]; rfl
 . rw [qjc _ hj,qak,List.getD_eq_getElem?_getD,qje m hj]
   exact qef _
theorem q79 {a b:Mk} (h:keyM a=keyM b):a=b:=by rw [← qsj a,h,qsj]
def mkLt (a b:Mk):Prop:=a.1<b.1\/(a.1=b.1/\a.2.1.data.toList<b.2.1.data.toList)
theorem q00 {d e:Dg} (h:d.1.data.toList=e.1.data.toList):d=e:=by
 obtain ⟨⟨d⟩,hd⟩:=d
 obtain ⟨⟨e⟩,he⟩:=e
 have h:d.toList=e.toList:=h
 apply Subtype.ext
 show ByteArray.mk d=ByteArray.mk e
 congr 1
 exact Array.toList_inj.1 h
theorem q4f (a:Mk):¬ mkLt a a:=by
 rintro (h | ⟨_,h⟩)
 . omega
 . exact List.lt_irrefl _ h
theorem qke {a b c:Mk} (h:mkLt a b) (h':mkLt b c):mkLt a c:=by
 rcases h with h | ⟨h1,h2⟩ <;> rcases h' with h' | ⟨h1',h2'⟩
 . exact .inl (by omega)
 . exact .inl (by omega)
 . exact .inl (by omega)
 . exact .inr ⟨by omega,List.lt_trans h2 h2'⟩
theorem qlm (a b:Mk):mkLt a b\/a=b\/mkLt b a:=by
 rcases Int.lt_trichotomy a.1 b.1 with h | h | h
 . exact .inl (.inl h)
 . by_cases h1:a.2.1.data.toList<b.2.1.data.toList
   . exact .inl (.inr ⟨h,h1⟩)
   . by_cases h2:b.2.1.data.toList<a.2.1.data.toList
     . exact .inr (.inr (.inr ⟨h.symm,h2⟩))
     . exact .inr (.inl (Prod.ext h (q00 (List.le_antisymm (List.not_lt.1 h2) (List.not_lt.1 h1)))))
 . exact .inr (.inr (.inl h))
def mkAt (V:Nat->Value) (i:Nat):Mk:=(vNum (V (i * 33)),dgOf fun j=>BitVec.ofInt 8 (vNum (V (i * 33+(j+1)))))
def mkL (V:Nat->Value) (n:Nat):List Mk:=(List.range n).map (mkAt V)
def MkV (V:Nat->Value) (n:Nat):Prop:=∀ i,i<n->V (i * 33)=.int .i64 (mkAt V i).1/\∀ j,j<32->V (i * 33+(j+1))=.int .u8 (((mkAt V i).2.at j).toNat:Int)
theorem qle (V:Nat->Value) (n:Nat):(mkL V n).length=n:=by simp [mkL]
theorem q10 {V:Nat->Value} {n j:Nat} (h:j<(mkL V n).length):(mkL V n)[j]=mkAt V j:=by simp [mkL]
def rowM (l:List Mk) (j:Nat):Value:=(mkC ((l[j / 33]?).getD default)).getD (j % 33) undef
theorem qqf {l:List Mk} {i:Nat} (h:i<l.length):rowM l (i * 33)=.int .i64 l[i].1/\∀ j,j<32->rowM l (i * 33+(j+1))=.int .u8 ((l[i].2.at j).toNat:Int):=by
 unfold rowM
 refine ⟨?_,fun j hj => ?_⟩
 . rw [show i * 33 / 33=i by omega,show i * 33 % 33=0 by omega,List.getElem?_eq_getElem h,List.getD_eq_getElem?_getD,Option.getD_some,qdf]; rfl
 . rw [show (i * 33+(j+1)) / 33=i by omega,show (i * 33+(j+1)) % 33=j+1 by omega,List.getElem?_eq_getElem h,List.getD_eq_getElem?_getD,Option.getD_some,qje _ hj]; rfl
theorem q20 {l:List Mk} {i:Nat} (h:i<l.length):mkAt (rowM l) i=l[i]:=by
 obtain ⟨h1,h2⟩:=qqf h
 refine Prod.ext ?_ (q3f fun j hj => ?_)
 . show vNum (rowM l (i * 33))=_
   rw [h1]; rfl
 . show (dgOf fun j=>BitVec.ofInt 8 (vNum (rowM l (i * 33+(j+1))))).at j=_
   rw [qjc _ hj,h2 j hj]
   exact qef _
theorem q9i (l:List Mk):MkV (rowM l) l.length/\mkL (rowM l) l.length=l:=by
 refine ⟨fun i hi => ?_,List.ext_getElem (by rw [qle]) fun i h1 h2 => ?_⟩
 . rw [q20 hi]; exact qqf hi
 . rw [q10,q20 h2]
theorem qaj {V:Nat->Value} {n:Nat} (h:MkV V n):∀ j,j<n * 33->V j=rowM (mkL V n) j:=fun j hj=>by
 have hi:j / 33<(mkL V n).length:=by rw [qle]; omega
 obtain ⟨h1,h2⟩:=qqf hi
 obtain ⟨h3,h4⟩:=h (j / 33) (by omega)
 rw [q10] at h1 h2
 rcases (show j=j / 33 * 33\/∃ k,k<32/\j=j / 33 * 33+(k+1) by
  by_cases c:j % 33=0
  . exact .inl (by omega)
  . exact .inr ⟨j % 33 - 1,by omega,by omega⟩) with c | ⟨k,hk,c⟩
 . rw [c,h1,h3]
 . rw [c,h2 k hk,h4 k hk]
end
noncomputable section
open Go.Sim
open Go.Proofs
variable {α:Type}
set_option maxRecDepth 1000000
def mkB (X:Nat->BitVec 8) (n:Nat):ByteArray:=⟨((List.range n).map fun j=>UInt8.ofBitVec (X j)).toArray⟩
theorem j7g (X:Nat->BitVec 8):mkB X 32=(dgOf X).1:=rfl
theorem qly (x:BitVec 8):(((x.toNat:Nat):Int).toNat).toUInt8=UInt8.ofBitVec x:=by
 apply UInt8.toBitVec_inj.1
 show BitVec.ofNat 8 _=x
 rw [Int.toNat_natCast]
 simp
theorem q2m (P:Program) (w:World):∀ (n blk off:Nat) (X:Nat->BitVec 8) (acc:ByteArray),(∀ j,j<n->w.cell? ⟨blk,off+j,none⟩=some (.int .u8 ((X j).toNat:Int))) ->
  (Extern.Bytes.loadBytes ⟨blk,off,none⟩ n acc).run P w=.ok ⟨acc.data++((List.range n).map fun j=>UInt8.ofBitVec (X j)).toArray⟩ w
 | 0,blk,off,X,acc,h=>by
   simp [Extern.Bytes.loadBytes]
 | n+1,blk,off,X,acc,h=>by
   have h0:=h 0 (by omega)
   rw [Nat.add_zero] at h0
   have ih:=q2m P w n blk (off+1) (fun j=>X (j+1)) (acc.push (UInt8.ofBitVec (X 0))) fun j hj=>by
    rw [show off+1+j=off+(j+1) by omega]; exact h (j+1) (by omega)
   have e:(⟨blk,off,none⟩:Addr).add 1=⟨blk,off+1,none⟩:=rfl
   simp only [Extern.Bytes.loadBytes,Sem.run_bind,run_load,h0]
   show ((Extern.Bytes.loadBytes ((⟨blk,off,none⟩:Addr).add 1) n (acc.push _)).run P w)=_
   rw [qly,e,ih]
   congr 1
   show ByteArray.mk _=ByteArray.mk _
   congr 1
   rw [List.range_succ_eq_map,List.map_cons,List.map_map,ByteArray.data_push]
   apply Array.toList_inj.1
   simp [Function.comp_def]
def slB1 (H:List SO) (v:SV) (f:(Nat->BitVec 8)->Nat->R α):R α:=v.asSlice (.stuck 7960) fun a l _=>entry H a fun e=>q71 e a.off.den l.den fun X=>f X l.den
theorem qmy {P:Program} {O:Nat->Prop} {w0 w:World} {β:Val} {H:List SO} (hr:HeapRel0 P O w0 β H w) {v:SV} {x:Value} (hv:v.den β=some x) {f:(Nat->BitVec 8)->Nat->R α} {φ:α->Prop}
  (hf:∀ X n,(Extern.Bytes.bytesOf x).run P w=.ok (mkB X n) w->(f X n).Sat φ):(slB1 H v f).Sat φ:=by
 unfold slB1
 rcases asSlice_cases v with ⟨a,l,c,rfl⟩ | hn
 . rw [den_slice] at hv
   obtain ⟨A,C,hA,hC,_,rfl⟩:=hv
   refine qgb fun e he => ?_
   have key:∀ cl:Cells,e.cells? = some cl->(qni cl a.off.den l.den fun X=>f X l.den).Sat φ:=by
    intro cl hcl
    obtain ⟨ll,vs,hl,hcr,hcell⟩:=qub hr he hcl
    obtain ⟨l',hl',rfl⟩:=SA.den_some hA
    rw [hl] at hl'; cases hl'
    refine qlg hcr fun X hle hX=>hf X l.den ?_
    show (Extern.Bytes.loadBytes ⟨ll.blk,ll.off+a.off.den,none⟩ l.den .empty).run P w=_
    rw [q2m P w l.den ll.blk (ll.off+a.off.den) X .empty fun j hj=>by rw [Nat.add_assoc]; exact hcell _ _ (hX j hj)]
    congr 1
    unfold mkB
    congr 1
    simp
   cases e with
   | own c w el=>exact key c rfl
   | row c=>exact key c rfl
   | loop=>trivial
   | deferred=>trivial
   | gone=>trivial
   | obj=>trivial
 . rw [hn]; trivial
def bcS:Summ:=fun args H _=>qhe args fun a b=>slB1 H a fun X n=>slB1 H b fun Y m=>.ok ⟨.int .i64 (.sym (Extern.BytealgCompare.cmp (mkB X n) (mkB Y m))),[],[]⟩
theorem jge:∃ fn,Tryd.prog.funcs[57]? = some fn/\(fn.name == "runtime.NumGoroutine")=false/\fn.body.isNone=true/\Extern.findNext fn=none/\Extern.find fn=some Extern.BytealgCompare.compare:=⟨_,rfl,by kernel_rfl,by kernel_rfl,by kernel_rfl,by kernel_rfl⟩
theorem bcOK:qdb Tryd.prog 57 bcS:=by
 intro glob O w0 β H w base args vs hH hG ha
 refine q6b fun a b hv => ?_
 rw [hv] at ha
 obtain ⟨x,ys,hx,hys,rfl⟩:=denL_cons.1 ha
 obtain ⟨y,zs,hy,hzs,rfl⟩:=denL_cons.1 hys
 cases hzs
 refine qmy hH hx fun X n h1=>qmy hH hy fun Y m h2 => ?_
 intro hfree
 refine ⟨by simp,.inr ?_⟩
 obtain ⟨fn,f1,f2,f3,f4,f5⟩:=jge
 refine ⟨.int .i64 (Extern.BytealgCompare.cmp (mkB X n) (mkB Y m)),w,β,?_,rfl,Eff.refl _ _ _ _⟩
 rw [run_callFunc_extern f1 f2 f3 f4 f5]
 show ((Extern.BytealgCompare.compare #[x,y]).run Tryd.prog w).andThen _=_
 have e:Extern.BytealgCompare.compare #[x,y]=(do pure (goInt (Extern.BytealgCompare.cmp (← Extern.Bytes.bytesOf x) (← Extern.Bytes.bytesOf y)))):=rfl
 rw [e]
 simp only [Sem.run_bind,h1,Result.andThen,h2]
 rfl
def dgC (d e:Dg):Int:=Extern.BytealgCompare.cmp d.1 e.1
theorem qsg {a:ByteArray} {i:Nat} (h:i<a.size):a[i]! = a.data.toList[i]'(by simpa using h):=by
 rw [getElem!_pos a i h]
 rfl
theorem qb7 (d e:Dg):(dgC d e = -1/\d.1.data.toList<e.1.data.toList)\/(dgC d e=0/\d=e)\/(dgC d e=1/\e.1.data.toList<d.1.data.toList):=by
 have hd:d.1.data.toList.length=32:=by have:=d.2; simpa using this
 have he:e.1.data.toList.length=32:=by have:=e.2; simpa using this
 have hm:min d.1.size e.1.size=32:=by rw [d.2,e.2]; rfl
 unfold dgC Extern.BytealgCompare.cmp
 rw [hm]
 cases hf:(List.range 32).find? fun i=>d.1[i]! != e.1[i]! with
 | none =>
   right; left
   refine ⟨by simp [d.2,e.2],q00 (List.ext_getElem (by omega) fun i h1 h2 => ?_)⟩
   have:=List.find?_eq_none.1 hf i (List.mem_range.2 (by omega))
   rw [qsg (by have:=d.2; omega),qsg (by have:=e.2; omega)] at this
   simpa using this
 | some i =>
   obtain ⟨h1,h2,h3⟩:=List.find?_range_eq_some.1 hf
   have hi:=List.mem_range.1 h2
   have h3':∀ j (h:j<32),j<i->d.1.data.toList[j]'(by omega)=e.1.data.toList[j]'(by omega):=fun j h hj=>by
    have:=h3 j hj
    rw [qsg (by have:=d.2; omega),qsg (by have:=e.2; omega)] at this
    simpa using this
   rw [qsg (by have:=d.2; omega),qsg (by have:=e.2; omega)] at h1
   show (if d.1[i]! < e.1[i]! then (-1:Int) else 1) = -1/\_\/(if d.1[i]! < e.1[i]! then (-1:Int) else 1)=0/\_\/(if d.1[i]! < e.1[i]! then (-1:Int) else 1)=1/\_
   rw [qsg (by have:=d.2; omega),qsg (by have:=e.2; omega)]
   by_cases c:d.1.data.toList[i]'(by omega)<e.1.data.toList[i]'(by omega)
   . left
     refine ⟨if_pos c,List.lt_iff_exists.2 (.inr ⟨i,by omega,by omega,fun j hj=>h3' j (by omega) hj,c⟩)⟩
   . right; right
     refine ⟨if_neg c,List.lt_iff_exists.2 (.inr ⟨i,by omega,by omega,fun j hj=>(h3' j (by omega) hj).symm,?_⟩)⟩
     have h1:d.1.data.toList[i]'(by omega)≠e.1.data.toList[i]'(by omega):=by simpa using h1
     rcases UInt8.lt_or_lt_of_ne h1 with k | k
     . exact absurd k c
     . exact k
end
end Go.Proofs.YthkgcljngalafaaDoor.Aes
namespace Go.Sim
noncomputable section
open Go.Proofs Go.Shelf Go.RowKit Go.Lib Go.Sort
theorem q89 {P:Program} {β:Val} {w:World} {base:Nat} {β':Val} {w':World} (h:Eff P β w base [] [] β' w'):∃ q os',w'=grow (w.drewN q) os':=by
 refine ⟨w'.drawn - w.drawn,w'.heap.extract w.heap.size w'.heap.size,?_⟩
 have hd:=h.drawn
 have hh:w'.heap=w.heap++w'.heap.extract w.heap.size w'.heap.size:=by
  apply Array.ext_getElem?
  intro i
  have hs:=h.size
  by_cases c:i<w.heap.size
  . rw [Array.getElem?_append_left c]
    exact h.frame i c fun n e l hm=>by cases hm
  . rw [Array.getElem?_append_right (by omega),Array.getElem?_extract]
    by_cases c2:i<w'.heap.size
    . rw [if_pos (by omega),show w.heap.size+(i - w.heap.size)=i by omega]
    . rw [Array.getElem?_eq_none (by omega),if_neg (by omega)]
 have h1:=h.os
 have h2:=h.tape
 have h3:=h.output
 cases w'; cases w
 simp only at h1 h2 h3 hd hh ⊢
 subst h1 h2 h3
 unfold grow World.drewN
 simp only [World.mk.injEq,true_and,and_true]
 exact ⟨hh,by omega⟩
section
variable {P:Program} {α:Type} [Inhabited α]
theorem q99 (hP:ProgOK P) {g:FuncId} {fn:Func} (hf:P.funcs[g]? = some fn) (hb:fn.body.isSome=true) {s:Summ} (hs:qdb P g s) (enc:α->List Value) (k:Nat) (cf:α->α->Int) (A:α->SV) (hA:∀ x,(A x).den (fun _=>none)=some (.agg (enc x).toArray))
  (hr:∀ x y,∃ n:SI,s [A x,A y] [] 0=.ok ⟨.int .i64 n,[],[]⟩/\n.den=cf x y) (blk off size:Nat) (w:World):CmpLays P g #[] enc k cf blk off size w:=by
 intro m os dk _ x y
 obtain ⟨n,hn,hc⟩:=hr x y
 have h:=hs (fun _=>none) (fun _=>False) (sortWorldK enc k w blk off m dk os) (fun _=>none) [] (sortWorldK enc k w blk off m dk os) 0 [A x,A y] [.agg (enc x).toArray,.agg (enc y).toArray] (HeapRel.start P (fun _=>False) _).toHeapRel0 (GlobRel.none _) (denL_cons.2 ⟨_,_,hA x,denL_cons.2 ⟨_,_,hA y,rfl,rfl⟩,rfl⟩)
 rw [hn] at h
 obtain ⟨_,h | ⟨v',w',β',h,_⟩⟩:=h (fun i hi=>rfl)
 . refine h.2.mono fun e w' ⟨v',β',he,hv,heff⟩=>⟨?_,q89 heff⟩
   rw [he,← hc]
   have hv:some (Value.int .i64 n.den)=some v':=hv
   rw [Option.some.inj hv]
 . rw [qod hP hf hb] at h
   cases h
variable (enc:α->List Value) (k:Nat)
def qrf (l:List α) (j:Nat):Value:=(flatK enc k l.toArray)[j]!
theorem qst {w:World} {blk:Nat} {vs rest:List Value} {el:TypeId} {fr:Nat × Nat} {d d':Array α} {m:Nat} {os:Array Obj} (hb:w.heap[blk]? = some (.cells (vs++rest).toArray el fr)) (hv:vs.length=d.size * k) (hd:d'.size=d.size) :
  (sortWorldK enc k w blk 0 m d' os).heap[blk]? = some (.cells ((flatK enc k d').toList++rest).toArray el fr):=by
 have hlt:blk<w.heap.size:=(Array.getElem?_eq_some_iff.1 hb).1
 show ((putRowK enc k (Sort.ahead w m) blk 0 d').heap++os)[blk]? = _
 have hp:(putRowK enc k (Sort.ahead w m) blk 0 d').heap=w.heap.modify blk (onCells (putCells id 0 (flatK enc k d'))):=rfl
 rw [Array.getElem?_append_left (by rw [hp,Array.size_modify]; exact hlt),hp,Array.getElem?_modify,if_pos rfl,hb]
 show some (Obj.cells (putCells id 0 (flatK enc k d') (vs++rest).toArray) el fr)=_
 congr 2
 apply Array.ext_getElem?
 intro j
 unfold putCells
 have hs:(flatK enc k d').size=vs.length:=by rw [size_flatK,hd,hv]
 rw [Array.getElem?_mapIdx]
 simp only [List.getElem?_toArray]
 by_cases c:j<vs.length
 . rw [List.getElem?_append_left c,List.getElem?_append_left (by simpa [hs] using c),List.getElem?_eq_getElem c,Option.map_some,if_pos ⟨Nat.zero_le _,by omega⟩]
   have hj:j<(flatK enc k d').toList.length:=by simpa [hs] using c
   rw [List.getElem?_eq_getElem hj]
   simp only [id,Nat.sub_zero]
   rw [getElem!_pos _ j (by omega)]
   simp
 . rw [List.getElem?_append_right (by omega),List.getElem?_append_right (by simp [hs]; omega)]
   have e:(flatK enc k d').toList.length=vs.length:=by simpa using hs
   rw [e]
   cases hr:rest[j - vs.length]? with
   | none=>rfl
   | some y=>simp only [Option.map_some]; rw [if_neg (by omega)]
theorem qmm {w:World} {blk b:Nat} {d':Array α} {m:Nat} {os:Array Obj} (hb:b<w.heap.size) (hne:b≠blk):(sortWorldK enc k w blk 0 m d' os).heap[b]? = w.heap[b]? := by
 show ((putRowK enc k (Sort.ahead w m) blk 0 d').heap++os)[b]? = _
 have hp:(putRowK enc k (Sort.ahead w m) blk 0 d').heap=w.heap.modify blk (onCells (putCells id 0 (flatK enc k d'))):=rfl
 rw [Array.getElem?_append_left (by rw [hp,Array.size_modify]; exact hb),hp,Array.getElem?_modify,if_neg (Ne.symm hne)]
theorem qtt {w:World} {blk:Nat} {d':Array α} {m:Nat} {os:Array Obj}:w.heap.size<=(sortWorldK enc k w blk 0 m d' os).heap.size:=by
 show _<=((putRowK enc k (Sort.ahead w m) blk 0 d').heap++os).size
 have hp:(putRowK enc k (Sort.ahead w m) blk 0 d').heap=w.heap.modify blk (onCells (putCells id 0 (flatK enc k d'))):=rfl
 rw [Array.size_append,hp,Array.size_modify]
 exact Nat.le_add_right _ _
theorem jaa {w:World} {blk:Nat} {vs rest:List Value} {el:TypeId} {lo hi:Nat} {d:Array α} (hb:w.heap[blk]? = some (.cells (vs++rest).toArray el (lo,hi))) (hu:Unfz lo hi (vs++rest).length) (hv:vs=(flatK enc k d).toList):HoldsK enc k w blk 0 d:=by
 intro j hj
 rw [Nat.zero_add]
 have hl:j<vs.length:=by rw [hv]; simpa using hj
 constructor
 . unfold World.cell?
   rw [hb]
   show (vs++rest).toArray[j]? = _
   rw [List.getElem?_toArray,List.getElem?_append_left hl,List.getElem?_eq_getElem hl]
   congr 1
   rw [getElem!_pos _ j hj]
   simp only [hv]
   simp
 . unfold World.frozen?
   rw [hb]
   simp only
   have:=hu.at j (by rw [List.length_append]; omega)
   simp only [Bool.and_eq_false_iff,decide_eq_false_iff_not]
   omega
def srtL (cf:α->α->Int) (D:List α):List α:=D.mergeSort fun x y => !(ltOf cf) y x
theorem jba {ρ:Ren} (L:SlLaysF0.n6 P ρ) (hP:ProgOK P) (hs6:∃ fn,P.funcs[ρ.f 6]? = some fn/\fn.body.isSome=true) (aE:∀ w,(isAgg (ρ.t 24)).run P w=.ok true w) (zE:∀ w,(Go.sizeOf (ρ.t 24)).run P w=.ok k w) (hk:∀ x,(enc x).length=k) (h1:∀ x,∀ v∈enc x,v.oneCell'=true) (cf:α->α->Int) (hO:SWO (ltOf cf)) (hT:∀ x y,(ltOf cf) x y=false->(ltOf cf) y x=false->x=y)
  {g:FuncId} {fn:Func} (hf:P.funcs[g]? = some fn) (hb:fn.body.isSome=true) (hcmp:∀ blk size w,CmpLays P g #[] enc k cf blk 0 size w)
  {O:Nat->Prop} {w0 w:World} {β:Val} {H:List SO} {base nm:Nat} {wh:Bool} {el:TypeId} {V:Nat->Value} {D:List α} {c:SC} {l:SN} {vs:List Value} (hH:HeapRel0 P O w0 β H w) (he:H[nm]? = some (.own (.raw V (D.length * k)) wh el)) (hl:l.den=D.length)
  (hV:∀ j,j<D.length * k->V j=qrf enc k D j) (hsz:D.length<4611686018427387904) (ha:SV.denL β [.slice ⟨nm,.lit 0⟩ l c,.func (.fn (.func g)) [] []]=some vs) :
  SumSem P H β w base (ρ.f 6) vs ⟨.tuple [],[(nm,.own (.raw (qrf enc k (srtL cf D)) (D.length * k)) wh el)],[]⟩:=by
 obtain ⟨x,ys,hx,hys,rfl⟩:=denL_cons.1 ha
 obtain ⟨y,zs,hy,hzs,rfl⟩:=denL_cons.1 hys
 cases hy; cases hzs
 obtain ⟨A,C,hA,hC,hle,rfl⟩:=den_slice.1 hx
 obtain ⟨lo,ws,rest,f1,f2,hβ,hoff,hcr,hh,hu,hw,hi⟩:OwnRel P β w nm (.own (.raw V (D.length * k)) wh el):=(hH.entries nm _ he).toOwn rfl
 obtain ⟨hlen,hcr⟩:ws.length=D.length * k/\∀ (i:Nat) (x:Value),ws[i]? = some x->x=V i:=hcr
 have hA:(β nm).map (fun l=>(⟨l.blk,l.off+0,none⟩:Addr))=some A:=hA
 rw [hβ] at hA
 have hA:(⟨lo.blk,lo.off+0,none⟩:Addr)=A:=Option.some.inj hA
 rw [hoff] at hA
 subst hA
 rw [hl]
 have hws:ws=(flatK enc k D.toArray).toList:=by
  apply List.ext_getElem?
  intro i
  by_cases c:i<ws.length
  . rw [List.getElem?_eq_getElem c,hcr i _ (List.getElem?_eq_getElem c),hV i (by omega)]
    have:i<(flatK enc k D.toArray).size:=by rw [size_flatK]; simpa [hlen] using c
    rw [List.getElem?_eq_getElem (by simpa using this)]
    unfold qrf
    rw [getElem!_pos _ i this]
    simp
  . rw [List.getElem?_eq_none (by omega),List.getElem?_eq_none (by simp; omega)]
 have hHd:=jaa enc k hh hu hws
 have hblk:lo.blk<w.heap.size:=(Array.getElem?_eq_some_iff.1 hh).1
 have hcon:=AnyQ.slices_SortFunc L k aE zE enc hk h1 cf hO g #[] lo.blk 0 C D.toArray w (fun args w=>qod hP hf hb args w) (hcmp lo.blk D.toArray.size w) hHd hblk (by simpa using hsz)
 refine fun hnew=>⟨fun n e hm => ?_,.inl ⟨hs6,?_⟩⟩
 . simp at hm
   obtain ⟨rfl,rfl⟩:=hm
   exact ⟨_,he,rfl⟩
 refine hcon.mono fun e w' ⟨hret,d',n,os,hp,hso,hw'⟩=>⟨.tuple #[],β,hret,rfl,?_⟩
 have hsd:d'.size=D.toArray.size:=hp.1
 have hd':d'.toList=srtL cf D:=Go.Sort.sorted_unique_holds hO hT D.toArray d' hp hso
 have hsL:(srtL cf D).length=D.length:=by rw [← hd']; simpa using hsd
 have hd'':d'=(srtL cf D).toArray:=by rw [← hd',Array.toArray_toList]
 subst hw'
 have hh':=qst enc k (m:=n) (os:=os) hh (by rw [hlen]; simp) hsd
 refine ⟨fun n l h=>h,rfl,rfl,rfl,Nat.le_add_right _ _,qtt enc k,fun _ _=>rfl,fun b hb hne=>qmm enc k hb fun e => ?_,fun n e e' h h' => ?_,fun n e hm => ?_,fun i e h=>by simp at h,fun i j l l' _ h=>by simp at h⟩
 . exact hne nm (.own (.raw (qrf enc k (srtL cf D)) (D.length * k)) wh el) lo (by simp) hβ e.symm
 . simp at h h'
   rw [h.2,h'.2]
 . simp at hm
   obtain ⟨rfl,rfl⟩:=hm
   refine ⟨lo,_,rest,f1,f2,hβ,hoff,⟨by simp [size_flatK,hsd],fun i x hx => ?_⟩,hh',?_,hw,fun i' hi' => ?_⟩
   . unfold qrf
     rw [← hd'']
     have hi:i<(flatK enc k d').size:=by
      have:=(List.getElem?_eq_some_iff.1 hx).1
      simpa using this
     rw [List.getElem?_eq_getElem (by simpa using hi)] at hx
     rw [getElem!_pos _ i hi,← Option.some.inj hx]
     simp
   . rw [List.length_append] at hu ⊢
     simpa [size_flatK,hsd,hlen] using hu
   . have:=hi i' hi'
     rw [List.length_append] at this ⊢
     simpa [size_flatK,hsd,hlen] using this
end
end
end Go.Sim
namespace Go.Proofs
noncomputable section
open Go.Shelf Go.RowKit Go.Lib Go.Sort
def Tryd.sortMk_ren:Go.Shelf.Ren:=⟨fun | 6=>48 | 15=>59 | 14=>58 | 28=>76 | 29=>77 | 20=>68 | 21=>69 | 22=>70 | 23=>71 | 24=>72 | 25=>73 | 26=>74 | 27=>75 | 46=>79 | 47=>80 | 48=>81 | 49=>82 | 50=>83 | 57=>84 | n=>n,fun | 22=>77 | 24=>65 | 25=>69 | 3=>3 | 39=>86 | 0=>0 | 53=>95 | 55=>61 | 4=>4 | 46=>115 | 45=>114 | 50=>119 | 5=>5 | 9=>9 | 66=>124 | 70=>128 | 76=>130 | 77=>131 | n=>n,fun | n=>n⟩
theorem Tryd.sortMk:Go.Proofs.SlLaysF0.n6 Tryd.prog Tryd.sortMk_ren:={
 mixed:=by kernel_rfl
 f6:=⟨Tryd.f48.name,by decide,Tryd.func48.trans (congrArg some (by kernel_rfl))⟩
 f14:=⟨Tryd.f58.name,by decide,Tryd.func58.trans (congrArg some (by kernel_rfl))⟩
 f15:=Tryd.func59.trans (congrArg some (by kernel_rfl))
 f20:=⟨Tryd.f68.name,by decide,Tryd.func68.trans (congrArg some (by kernel_rfl))⟩
 f21:=⟨Tryd.f69.name,by decide,Tryd.func69.trans (congrArg some (by kernel_rfl))⟩
 f22:=⟨Tryd.f70.name,by decide,Tryd.func70.trans (congrArg some (by kernel_rfl))⟩
 f23:=⟨Tryd.f71.name,by decide,Tryd.func71.trans (congrArg some (by kernel_rfl))⟩
 f24:=⟨Tryd.f72.name,by decide,Tryd.func72.trans (congrArg some (by kernel_rfl))⟩
 f25:=⟨Tryd.f73.name,by decide,Tryd.func73.trans (congrArg some (by kernel_rfl))⟩
 f26:=⟨Tryd.f74.name,by decide,Tryd.func74.trans (congrArg some (by kernel_rfl))⟩
 f27:=⟨Tryd.f75.name,by decide,Tryd.func75.trans (congrArg some (by kernel_rfl))⟩
 f28:=Tryd.func76.trans (congrArg some (by kernel_rfl))
 f29:=Tryd.func77.trans (congrArg some (by kernel_rfl))
 f46:=⟨Tryd.f79.name,by decide,Tryd.func79.trans (congrArg some (by kernel_rfl))⟩
 f47:=Tryd.func80.trans (congrArg some (by kernel_rfl))
 f48:=Tryd.func81.trans (congrArg some (by kernel_rfl))
 f49:=⟨Tryd.f82.name,by decide,Tryd.func82.trans (congrArg some (by kernel_rfl))⟩
 f50:=⟨Tryd.f83.name,by decide,Tryd.func83.trans (congrArg some (by kernel_rfl))⟩
 f57:=⟨Tryd.f84.name,by decide,Tryd.func84.trans (congrArg some (by kernel_rfl))⟩
 t0:=Tryd.underlying0
 a0:=Tryd.isAgg0
 z0:=Tryd.sizeOf0
 v0:=Tryd.zeroValue0
 t3:=Tryd.underlying3
 a3:=Tryd.isAgg3
 z3:=Tryd.sizeOf3
 v3:=Tryd.zeroValue3
 t4:=Tryd.underlying4
 a4:=Tryd.isAgg4
 z4:=Tryd.sizeOf4
 v4:=Tryd.zeroValue4
 t5:=Tryd.underlying5
 a5:=Tryd.isAgg5
 z5:=Tryd.sizeOf5
 v5:=Tryd.zeroValue5
 t9:=Tryd.underlying9
 a9:=Tryd.isAgg9
 z9:=Tryd.sizeOf9
 v9:=Tryd.zeroValue9
 t22:=Tryd.underlying77
 a22:=Tryd.isAgg77
 z22:=Tryd.sizeOf77
 v22:=Tryd.zeroValue77
 t25:=Tryd.underlying69
 a25:=Tryd.isAgg69
 z25:=Tryd.sizeOf69
 v25:=Tryd.zeroValue69
 t39:=Tryd.underlying86
 a39:=Tryd.isAgg86
 z39:=Tryd.sizeOf86
 v39:=Tryd.zeroValue86
 t45:=Tryd.underlying114
 a45:=Tryd.isAgg114
 z45:=Tryd.sizeOf114
 v45:=Tryd.zeroValue114
 t46:=Tryd.underlying115
 a46:=Tryd.isAgg115
 z46:=Tryd.sizeOf115
 v46:=Tryd.zeroValue115
 t50:=Tryd.underlying119
 a50:=Tryd.isAgg119
 z50:=Tryd.sizeOf119
 v50:=Tryd.zeroValue119
 t53:=Tryd.underlying95
 a53:=Tryd.isAgg95
 z53:=Tryd.sizeOf95
 v53:=Tryd.zeroValue95
 t55:=Tryd.underlying61
 a55:=Tryd.isAgg61
 z55:=Tryd.sizeOf61
 v55:=Tryd.zeroValue61
 t66:=Tryd.underlying124
 a66:=Tryd.isAgg124
 z66:=Tryd.sizeOf124
 v66:=Tryd.zeroValue124
 t70:=Tryd.underlying128
 a70:=Tryd.isAgg128
 z70:=Tryd.sizeOf128
 v70:=Tryd.zeroValue128
 t76:=Tryd.underlying130
 a76:=Tryd.isAgg130
 z76:=Tryd.sizeOf130
 v76:=Tryd.zeroValue130
 t77:=Tryd.underlying131
 a77:=Tryd.isAgg131
 z77:=Tryd.sizeOf131
 v77:=Tryd.zeroValue131 }
end
end Go.Proofs
namespace Go.Proofs.YthkgcljngalafaaDoor.Aes
noncomputable section
open Go.Sim
open Go.Proofs
open Go.Shelf Go.Sort
variable {α:Type}
set_option maxRecDepth 1000000
def mkCs (m:Mk):List SV:=.int .i64 (.sym m.1)::mapN (fun j=>.int .u8 (.b8 (m.2.at j))) (qra 32 0)
def mkS (m:Mk):SV:=.agg (mkCs m)
theorem quq (m:Mk) (β:Val):SV.denL β (mkCs m)=some (mkC m):=by
 unfold mkCs mkC
 rw [qja,qya,← List.range_eq_range']
 refine denL_cons.2 ⟨_,_,rfl,?_,rfl⟩
 generalize List.range 32=l
 induction l with
 | nil=>rfl
 | cons a l ih=>exact denL_cons.2 ⟨_,_,rfl,ih,rfl⟩
theorem jhe (m:Mk) (β:Val):(mkS m).den β=some (keyM m):=by
 show (SV.denL β (mkCs m)).map _=_
 rw [quq]; rfl
def cfgB:Cfg:=qbg (qkc [(57,bcS)])
theorem qc7:CfgOK cfgB:=qjd (all1 bcOK)
section
variable (m n:Mk)
def s1T:Tree:=qfa cfgB 4000 49 [mkS m,mkS n] []
def dgX (m:Mk):Nat->BitVec 8:=fun i=>qxj (mkCs m) (1+i)
def s1A (q:List Prop):List Prop:=((m.1 != m.1)=false)::((n.1 != n.1)=false)::q
def s1B:List Prop:=repN (33<=33/\(0<1\/33<=0)/\True) 2
theorem s1_lt:outO [] (s1T m n) [false,false,true]=(s1A m n [decide (m.1<n.1)=true],some (.int .i64 (.lit (-1)),[])):=by kernel_rfl
theorem s1_gt:outO [] (s1T m n) [false,false,false,true]=(s1A m n [decide (m.1<n.1)=false,decide (m.1 > n.1)=true],some (.int .i64 (.lit 1),[])):=by kernel_rfl
theorem s1_eq:outO [] (s1T m n) [false,false,false,false]=(s1A m n ((decide (m.1<n.1)=false)::(decide (m.1 > n.1)=false)::s1B),some (.int .i64 (.sym (Extern.BytealgCompare.cmp (mkB (dgX m) 32) (mkB (dgX n) 32))),[])):=by kernel_rfl
end
theorem q23 (v:SV) (l:List SV) (i:Nat):qxj (v::l) (i+1)=qxj l i:=rfl
theorem q9u (f:Nat->BitVec 8):∀ (n k i:Nat),i<n->qxj (mapN (fun j=>SV.int .u8 (.b8 (f j))) (qra n k)) i=f (k+i)
 | 0,_,_,h=>by omega
 | n+1,k,0,_=>rfl
 | n+1,k,i+1,h=>by
   have:=q9u f n (k+1) i (by omega)
   rw [show k+(i+1)=k+1+i by omega,← this]
   rfl
theorem qd7 {X Y:Nat->BitVec 8} {n:Nat} (h:∀ j,j<n->X j=Y j):mkB X n=mkB Y n:=by
 unfold mkB
 congr 2
 exact List.map_congr_left fun j hj=>by rw [h j (List.mem_range.1 hj)]
theorem j8g (m:Mk) {i:Nat} (h:i<32):dgX m i=m.2.at i:=by
 unfold dgX mkCs
 rw [show 1+i=i+1 by omega,q23,q9u _ _ _ _ h,Nat.zero_add]
theorem q7o (m:Mk):mkB (dgX m) 32=m.2.1:=by
 rw [qd7 (Y:=m.2.at) fun j hj=>j8g m hj,j7g,q8u]
def cfM (m n:Mk):Int:=if m.1<n.1 then -1 else if m.1 > n.1 then 1 else dgC m.2 n.2
theorem cfM_neg {m n:Mk}:cfM m n<0↔mkLt m n:=by
 unfold cfM mkLt
 by_cases h:m.1<n.1
 . rw [if_pos h]; exact ⟨fun _=>.inl h,fun _=>by omega⟩
 . rw [if_neg h]
   by_cases h2:m.1 > n.1
   . rw [if_pos h2]
     constructor
     . intro k; omega
     . rintro (k | ⟨k,_⟩) <;> omega
   . rw [if_neg h2]
     have e:m.1=n.1:=by omega
     rcases qb7 m.2 n.2 with ⟨h3,h4⟩ | ⟨h3,h4⟩ | ⟨h3,h4⟩ <;> rw [h3]
     . exact ⟨fun _=>.inr ⟨e,h4⟩,fun _=>by omega⟩
     . constructor
       . intro k; omega
       . rintro (k | ⟨_,k⟩)
         . exact absurd k h
         . rw [h4] at k; exact absurd k (List.lt_irrefl _)
     . constructor
       . intro k; omega
       . rintro (k | ⟨_,k⟩)
         . exact absurd k h
         . exact absurd (List.lt_trans h4 k) (List.lt_irrefl _)
noncomputable instance (p q:Mk):Decidable (mkLt p q):=Classical.propDecidable _
theorem ltMk {p q:Mk}:ltOf cfM p q=decide (mkLt p q):=by
 unfold ltOf
 exact decide_eq_decide.2 cfM_neg
theorem swoMk:SWO (ltOf cfM) where
 irrefl p:=by rw [ltMk]; exact decide_eq_false (q4f p)
 trans p q r h h':=by
  rw [ltMk] at *
  exact decide_eq_true (qke (of_decide_eq_true h) (of_decide_eq_true h'))
 ntrans p q r h h':=by
  rw [ltMk] at *
  have h:=of_decide_eq_false h
  have h':=of_decide_eq_false h'
  refine decide_eq_false fun hr => ?_
  rcases qlm p q with k | rfl | k
  . exact h k
  . exact h' hr
  . exact h' (qke k hr)
theorem totMk (p q:Mk) (h:ltOf cfM p q=false) (h':ltOf cfM q p=false):p=q:=by
 rw [ltMk] at *
 rcases qlm p q with k | k | k
 . exact absurd k (of_decide_eq_false h)
 . exact k
 . exact absurd k (of_decide_eq_false h')
def mkV (v:SV):Option Mk:=match v with
 | .agg (.int .i64 t::l)=>optC (unb l) none fun xs=>boolC (Nat.beq (lenN xs) 32) (some (t.den,dgOf (q4a xs))) none
 | _=>none
theorem qph {v:SV} {m:Mk} (h:mkV v=some m):v.Imp (mkS m):=by
 unfold mkV at h
 split at h
 . rename_i t l
   cases hu:unb l with
   | none=>rw [hu] at h; cases h
   | some xs =>
     rw [hu] at h
     have h:boolC (Nat.beq (lenN xs) 32) (some (t.den,dgOf (q4a xs))) none=some m:=h
     cases hl:Nat.beq (lenN xs) 32 with
     | false=>rw [hl] at h; cases h
     | true =>
       rw [hl] at h
       cases h
       have hl:=Nat.eq_of_beq_eq_true hl
       rw [qha] at hl
       refine q5o (qla (qza rfl) fun γ vs hv => ?_)
       obtain ⟨h1,h2⟩:=qif hu hv
       have e:SV.denL γ (mapN (fun j=>SV.int .u8 (.b8 ((dgOf (q4a xs)).at j))) (qra 32 0))=some ((List.range 32).map fun j=>Value.int .u8 (((dgOf (q4a xs)).at j).toNat:Int)):=by
        have:=quq (0,dgOf (q4a xs)) γ
        obtain ⟨_,_,_,h4,h5⟩:=denL_cons.1 this
        cases h5
        exact h4
       refine e.trans (congrArg some ?_)
       refine List.ext_getElem (by simp; omega) fun i g1 g2 => ?_
       have hi:i<32:=by simpa using g1
       have:=h2 i (by omega)
       rw [List.getElem?_eq_getElem g2] at this
       rw [Option.some.inj this]
       simp [qjc _ hi]
 . cases h
def s1S:Summ:=fun args _ _=>qhe args fun a b=>optC (mkV a) (.stuck 7961) fun m=>optC (mkV b) (.stuck 7961) fun n=>.ok ⟨.int .i64 (.sym (cfM m n)),[],[]⟩
theorem s1OK:qdb Tryd.prog 49 s1S:=by
 intro glob O w0 β H w base args vs hH hG ha
 refine q6b fun a b hv=>qka fun m hm=>qka fun n hn => ?_
 rw [hv] at ha
 have ha:=qla (qph hm) (qla (qph hn) q3b) _ _ ha
 show SumSem Tryd.prog H β w base _ vs ⟨.int .i64 (.sym (cfM m n)),[],[]⟩
 have hr:∀ (f:Nat->Nat) (m:Mk),(mkS m).ren f=mkS m:=fun f m=>by kernel_rfl
 have hu:∀ (p:Nat->Bool) (m:Mk),(mkS m).uses p=true:=fun p m=>by kernel_rfl
 have go:∀ {ds ps v},outO [] (s1T m n) ds=(ps,some (.int .i64 v,[]))->(∀ p∈ps,p)->v.den=cfM m n->SumSem Tryd.prog H β w base 49 vs ⟨.int .i64 (.sym (cfM m n)),[],[]⟩:=fun {ds ps v} hrun hp hv=>by
  refine qqc qc7 4000 hH ⟨[],[],[mkS m,mkS n]⟩ (by intro g j hg; cases hg) ?_ (Ifc.fitsQ (by simp) (by show ((mkS m).uses _ && ((mkS n).uses _ && true))=true; rw [hu,hu]; rfl) trivial) [] (by simp) (by simp) (q2b hrun hp fun H2 _=>⟨?_,rfl,trivial,trivial⟩)
  . show SV.denL β [(mkS m).ren _,(mkS n).ren _]=_
    rw [hr,hr]; exact ha
  . show SV.Imp (.int .i64 v) _
    exact qza hv
 have h0:∀ (m:Mk),(m.1 != m.1)=false:=fun m=>by simp
 by_cases c:m.1<n.1
 . exact go (s1_lt m n) (all_cons (h0 m) (all_cons (h0 n) (all_cons (decide_eq_true c) qba))) (by unfold cfM; rw [if_pos c]; rfl)
 . by_cases c2:m.1 > n.1
   . exact go (s1_gt m n) (all_cons (h0 m) (all_cons (h0 n) (all_cons (decide_eq_false c) (all_cons (decide_eq_true c2) qba)))) (by unfold cfM; rw [if_neg c,if_pos c2]; rfl)
   . refine go (s1_eq m n) (all_cons (h0 m) (all_cons (h0 n) (all_cons (decide_eq_false c) (all_cons (decide_eq_false c2) (q2c ⟨Nat.le_refl _,.inl (by omega),trivial⟩ 2))))) ?_
     show Extern.BytealgCompare.cmp (mkB (dgX m) 32) (mkB (dgX n) 32)=_
     unfold cfM
     rw [if_neg c,if_neg c2,q7o,q7o]; rfl
theorem jie (blk size:Nat) (w:World):CmpLays Tryd.prog 49 #[] mkC 33 cfM blk 0 size w :=
 q99 cfgP0OK.prog (fn:=Tryd.f49) (by kernel_rfl) (by kernel_rfl) s1OK mkC 33 cfM mkS (fun m=>jhe m _) (fun m n=>⟨.sym (cfM m n),by
  have e:∀ m,mkV (mkS m)=some m:=fun m=>by
   have:mkV (mkS m)=some (m.1,dgOf (q4a ((List.range 32).map fun j=>m.2.at j))):=by kernel_rfl
   rw [this]
   congr 1
   refine Prod.ext rfl (q3f fun j hj => ?_)
   show (dgOf _).at j=_
   rw [qjc _ hj]
   unfold q4a
   simp [hj]
  show (optC (mkV (mkS m)) (R.stuck 7961) fun m'=>optC (mkV (mkS n)) (R.stuck 7961) fun n'=>(R.ok ⟨.int .i64 (.sym (cfM m' n')),[],[]⟩:R SumRes))=_
  rw [e m,e n]; rfl,rfl⟩) blk 0 size w
end
noncomputable section
open Go.Sim
open Go.Proofs
variable {α:Type}
theorem jje (a b:Value) (w:World) :
  CallsD Tryd.prog 24 #[a,b] .returning w fun e u' w'=>e=.returned (.tuple #[])/\u'=.returning/\w'=w:=by
 refine callsD_of_wpS Tryd.func24 rfl fun c₀ cs hu => ?_
 apply wpS_seq
 apply wpS_region
 simp [wpOpsS,go_sem,recoverD,hu,Tryd.ntmps24,Exit.thenS]
 apply wpS_seq
 apply wpS_region
 simp [wpOpsS,go_sem,recoverD,hu,Exit.thenS]
 refine wpS_cond (t:=false) (by simp [Act.eval,Array.replicate]) ?_
 simp only [Bool.false_eq_true,if_false]
 refine wpS_of_wp (wp_skip ?_)
 cases c₀
 simp_all [bodyPostS,results,Tryd.results24]
theorem j9g (pc pe:Addr) (x y:Value) (n:Int) (w:World) (hc:w.cell? pc=some x) (hz:w.frozen? pc=false) (he:w.cell? pe=some y) (hy:w.frozen? pe=false) (hne:pc≠pe) :
  CallsD Tryd.prog 24 #[.pointer (some pc),.pointer (some pe)] (.panicking [{ v:=.iface 25 (.int .i64 n),recovered:=false }]) w fun e u' w' =>
   e=.returned (.tuple #[])/\u'=.panicking [{ v:=.iface 25 (.int .i64 n),recovered:=true }]/\w'=(w.setCell pc (.pointer none)).setCell pe (.int .i64 n):=by
 refine callsD_of_wpS Tryd.func24 rfl fun c₀ cs hu => ?_
 apply wpS_seq
 apply wpS_region
 simp [wpOpsS,go_sem,recoverD,hu,Tryd.ntmps24,Exit.thenS]
 apply wpS_seq
 apply wpS_region
 simp [wpOpsS,go_sem,recoverD,Exit.thenS]
 refine wpS_cond (t:=true) (by simp [Act.eval,Array.replicate]) ?_
 simp only [if_true]
 apply wpS_seq
 apply wpS_region
 simp [wpOpsS,go_sem,recoverD,Exit.thenS,Instr.typeAssert,Instr.extract]
 apply wpS_seq
 apply wpS_seq
 apply wpS_region
 simp [wpOpsS,go_sem,recoverD,Exit.thenS]
 refine wpS_cond (t:=false) (by simp [Act.eval,Act.put,Array.replicate]) ?_
 simp only [Bool.false_eq_true,if_false]
 refine wpS_of_wp (wp_skip ?_)
 simp only [Exit.thenS]
 apply wpS_region
 have hy2:(w.setCell pc (.pointer none)).frozen? pe=false:=by simpa using hy
 have hy':(w.setCell pc (.pointer none)).cell? pe=some y:=(World.cell?_setCell_other w pc pe _ hne).trans he
 simp [wpOpsS,go_sem,Act.put,Act.eval,hc,hz,hy2,hy',bodyPostS,results,Tryd.results24]
end
end Go.Proofs.YthkgcljngalafaaDoor.Aes
namespace Go.Sim
noncomputable section
theorem qny {P:Program} {β:Val} {w:World} {n:Nat} {v:SV} {wh:Bool} {el:TypeId} (h:OwnRel P β w n (.own (.lst [v]) wh el)) :
  ∃ l x rest lo hi,β n=some l/\l.off=0/\w.heap[l.blk]? = some (.cells (x::rest).toArray el (lo,hi))/\w.cell? ⟨l.blk,0,none⟩=some x/\w.frozen? ⟨l.blk,0,none⟩=false /\
    ∀ (w1:World) (u:SV) (y:Value),u.den β=some y->w1.heap[l.blk]? = w.heap[l.blk]? ->
      w1.setCell ⟨l.blk,0,none⟩ y={ w1 with heap:=w1.heap.setIfInBounds l.blk (.cells (y::rest).toArray el (lo,hi)) } /\
      ∀ w2:World,w2.heap[l.blk]? = some (.cells (y::rest).toArray el (lo,hi))->OwnRel P β w2 n (.own (.lst [u]) wh el):=by
 obtain ⟨l,vs,rest,lo,hi,hl,h0,hc,hh,hfz,hw,hcap⟩:=h
 obtain ⟨x,xs,hx,hxs,rfl⟩:=denL_cons.1 (show SV.denL β [v]=some vs from hc)
 rw [denL_nil] at hxs; subst hxs
 have hlt:l.blk<w.heap.size:=(Array.getElem?_eq_some_iff.1 hh).1
 refine ⟨l,x,rest,lo,hi,hl,h0,hh,?_,?_,fun w1 u y hy h1=>⟨?_,fun w2 h2 => ?_⟩⟩
 . simp [World.cell?,hh]
 . have:=hfz.at 0 (by simp)
   simp only [World.frozen?,hh]
   simp; omega
 . simp only [World.setCell]
   congr 1
   apply Array.ext_getElem?
   intro j
   rw [Array.getElem?_modify,Array.getElem?_setIfInBounds]
   split
   . rename_i h; subst h
     simp only [h1,hh,Option.map_some]
     have:l.blk<w1.heap.size:=by
      rw [hh] at h1
      exact (Array.getElem?_eq_some_iff.1 h1).1
     simp [this]
   . rfl
 . refine ⟨l,[y],rest,lo,hi,hl,h0,?_,h2,by simpa using hfz,hw,by simpa using hcap⟩
   show SV.denL β [u]=some [y]
   exact denL_cons.2 ⟨y,[],hy,rfl,rfl⟩
end
end Go.Sim
namespace Go.Proofs.YthkgcljngalafaaDoor.Aes
noncomputable section
open Go.Sim
open Go.Proofs
variable {α:Type}
def ldS1:Summ:=fun args _ _=>qhe args fun _ _=>.ok ⟨.tuple [],[],[]⟩
def errV (v:SV):Option SI:=match v with
 | .iface t (.int .i64 n)=>boolC (Nat.beq t 25) (some n) none
 | _=>none
theorem qe7 {v:SV} {n:SI} (h:errV v=some n):v=.iface 25 (.int .i64 n):=by
 unfold errV at h
 split at h
 . rename_i t m
   cases ht:Nat.beq t 25 with
   | false=>rw [ht] at h; cases h
   | true=>rw [ht] at h; cases h; rw [Nat.eq_of_beq_eq_true ht]
 . cases h
def cel1 (e:SO):Option (SV × Bool × TypeId):=match e with
 | .own (.lst [v]) w el=>some (v,w,el)
 | _=>none
theorem qav {e:SO} {r:SV × Bool × TypeId} (h:cel1 e=some r):e=.own (.lst [r.1]) r.2.1 r.2.2:=by
 unfold cel1 at h
 split at h
 . cases h; rfl
 . cases h
def ldS2:Summ:=fun args H _=>qew args fun v pc pe=>optC (errV v) (.stuck 7900) fun n=>optC (qss pc) (.stuck 7901) fun m=>optC (qss pe) (.stuck 7901) fun k=>optC (nth H m) (.stuck 7902) fun e=>optC (cel1 e) (.stuck 7903) fun r =>
 optC (nth H k) (.stuck 7902) fun e=>optC (cel1 e) (.stuck 7903) fun q=>boolC (Nat.beq m k) (.stuck 7904) (.ok ⟨.tuple [],[(m,.own (.lst [.nilPtr]) r.2.1 r.2.2),(k,.own (.lst [.int .i64 n]) q.2.1 q.2.2)],[]⟩)
theorem ldDef (glob:Nat->Option Nat):DefAt Tryd.prog glob 24 (ldS1,ldS2) where
 ret:=by
  intro O w0 β H w base args vs hH hG ha
  show (ldS1 args H base).Sat _
  refine q6b fun a b hv => ?_
  rw [hv] at ha
  obtain ⟨x,xs,hx,hxs,rfl⟩:=denL_cons.1 ha
  obtain ⟨y,ys,hy,hys,rfl⟩:=denL_cons.1 hxs
  rw [denL_nil] at hys; subst hys
  refine fun _=>⟨fun _ _ h=>(by cases h),⟨_,Tryd.func24,by kernel_rfl⟩,(jje x y w).mono ?_⟩
  rintro e u' w' ⟨rfl,rfl,rfl⟩
  exact ⟨⟨_,rfl⟩,rfl,β,Eff.refl _ _ _ _⟩
 pan:=by
  intro O w0 β H w base v x args vs hH hG hv ha
  show (ldS2 (v::args) H base).Sat _
  refine q6n fun v' pc pe hv' => ?_
  obtain ⟨rfl,rfl⟩:=List.cons.inj hv'
  refine qka fun n hn=>qka fun m hm=>qka fun k hk=>qka fun e he=>qka fun r hr=>qka fun e2 he2=>qka fun q hq => ?_
  cases hmk:Nat.beq m k with
  | true=>exact trivial
  | false =>
    have hne:m≠k:=fun h=>by rw [h,Nat.beq_refl] at hmk; cases hmk
    rw [qca] at he he2
    rw [qav hr] at he
    rw [qav hq] at he2
    rw [qkm hm,qkm hk] at ha
    rw [qe7 hn] at hv
    simp only [SV.den,Option.map_some,Option.some.injEq] at hv
    subst hv
    refine fun _=>⟨fun i e hi => ?_,⟨_,Tryd.func24,by kernel_rfl⟩,?_⟩
    . rcases List.mem_cons.1 hi with h | h
      . cases h; exact ⟨_,he,rfl⟩
      . obtain h:=List.mem_singleton.1 h
        cases h; exact ⟨_,he2,rfl⟩
    obtain ⟨l1,x1,r1,lo1,hi1,hl1,o1,hh1,hc1,hz1,k1⟩:=qny (show OwnRel Tryd.prog β w m (.own (.lst [r.1]) r.2.1 r.2.2) from (hH.entries _ _ he).toOwn rfl)
    obtain ⟨l2,x2,r2,lo2,hi2,hl2,o2,hh2,hc2,hz2,k2⟩:=qny (show OwnRel Tryd.prog β w k (.own (.lst [q.1]) q.2.1 q.2.2) from (hH.entries _ _ he2).toOwn rfl)
    have hb:l1.blk≠l2.blk:=hH.sep _ _ _ _ _ _ he he2 rfl rfl hne hl1 hl2
    have hvs:vs=[.pointer (some ⟨l1.blk,0,none⟩),.pointer (some ⟨l2.blk,0,none⟩)]:=by
     have:SV.denL β [.ptr ⟨m,.lit 0⟩,.ptr ⟨k,.lit 0⟩]=some [.pointer (some ⟨l1.blk,0,none⟩),.pointer (some ⟨l2.blk,0,none⟩)]:=by
      simp [SV.denL,SV.den,SA.den,hl1,hl2,SN.den,o1,o2]
     rw [this] at ha; exact (Option.some.inj ha).symm
    subst hvs
    refine (j9g ⟨l1.blk,0,none⟩ ⟨l2.blk,0,none⟩ x1 x2 n.den w hc1 hz1 hc2 hz2 (fun e=>hb (congrArg Addr.block e))).mono ?_
    rintro e u' w' ⟨rfl,rfl,rfl⟩
    refine ⟨⟨_,rfl⟩,rfl,β,?_⟩
    obtain ⟨e1,f1⟩:=k1 w .nilPtr (.pointer none) rfl rfl
    have hs1:l1.blk<w.heap.size:=(Array.getElem?_eq_some_iff.1 hh1).1
    have hs2:l2.blk<w.heap.size:=(Array.getElem?_eq_some_iff.1 hh2).1
    rw [e1]
    obtain ⟨e2,f2⟩:=k2 { w with heap:=w.heap.setIfInBounds l1.blk (.cells (Value.pointer none::r1).toArray r.2.2 (lo1,hi1)) } (.int .i64 n) (.int .i64 n.den) rfl (by simp [hb])
    rw [e2]
    exact {
     le:=Val.le_refl β
     os:=rfl
     tape:=rfl
     output:=rfl
     drawn:=Nat.le_refl _
     size:=by simp
     dom:=fun _ _=>rfl
     frame:=fun b _ hn=>by
      have h1:=hn m _ l1 (List.mem_cons_self) hl1
      have h2:=hn k _ l2 (List.mem_cons_of_mem _ List.mem_cons_self) hl2
      simp [h1,h2]
     one:=fun i a b ha hb=>by
      rcases List.mem_cons.1 ha with h | h <;> rcases List.mem_cons.1 hb with h' | h'
      . cases h; cases h'; rfl
      . cases h; cases List.mem_singleton.1 h'; exact absurd rfl hne
      . cases List.mem_singleton.1 h; cases h'; exact absurd rfl hne
      . cases List.mem_singleton.1 h; cases List.mem_singleton.1 h'; rfl
     turned:=fun i a ha=>by
      rcases List.mem_cons.1 ha with h | h
      . cases h
        refine f1 _ ?_
        simp [hs1,Ne.symm hb]
      . cases List.mem_singleton.1 h
        refine f2 _ ?_
        simp [hs2]
     made:=fun i a ha=>by simp at ha
     apart:=fun i j l l' _ hi=>by simp at hi }
end
noncomputable section
open Go.Sim
open Go.Proofs
variable {α:Type}
set_option maxRecDepth 1000000
def beN (X:Nat->BitVec 8) (o:Nat):Nat->Nat
 | 0=>0
 | k+1=>256 * beN X o k+(X (o+k)).toNat
theorem qal (X:Nat->BitVec 8) (o:Nat):∀ k,beN X o k<256 ^ k
 | 0=>by simp [beN]
 | k+1=>by
   have:=qal X o k
   have:=(X (o+k)).isLt
   rw [beN,Nat.pow_succ]; omega
def numW (X:Nat->BitVec 8) (o i:Nat):BitVec 64:=(X (o+i)).setWidth 64
def numB (X:Nat->BitVec 8) (o:Nat):BitVec 64 :=
 ((((((((BitVec.ofInt 64 0 ||| numW X o 0) <<< 8 ||| numW X o 1) <<< 8 ||| numW X o 2) <<< 8 ||| numW X o 3) <<< 8 ||| numW X o 4) <<< 8 ||| numW X o 5) <<< 8 ||| numW X o 6) <<< 8 ||| numW X o 7)
theorem qgg {a:BitVec 64} {x:BitVec 8} {n:Nat} (h:a.toNat=n) (hn:n<72057594037927936):(a <<< 8 ||| x.setWidth 64).toNat=256 * n+x.toNat:=by
 have hx:=x.isLt
 rw [BitVec.toNat_or,BitVec.toNat_shiftLeft,BitVec.toNat_setWidth,h,Nat.mod_eq_of_lt (a:=x.toNat) (by omega),Nat.mod_eq_of_lt (by rw [Nat.shiftLeft_eq]; omega),← Nat.shiftLeft_add_eq_or_of_lt (by simpa using hx),Nat.shiftLeft_eq]
 omega
theorem jke (X:Nat->BitVec 8) (o:Nat):(numB X o).toNat=beN X o 8:=by
 have h0:(BitVec.ofInt 64 0 ||| numW X o 0).toNat=beN X o 1:=by
  have hx:=(X (o+0)).isLt
  unfold numW
  rw [BitVec.toNat_or,BitVec.toNat_setWidth,Nat.mod_eq_of_lt (by omega)]
  simp [beN]
 have hb:∀ k,k<=7->beN X o k<72057594037927936:=fun k hk=>Nat.lt_of_lt_of_le (qal X o k) (Nat.le_trans (Nat.pow_le_pow_right (by omega) hk) (by decide))
 exact qgg (qgg (qgg (qgg (qgg (qgg (qgg h0 (hb 1 (by omega))) (hb 2 (by omega))) (hb 3 (by omega))) (hb 4 (by omega))) (hb 5 (by omega))) (hb 6 (by omega))) (hb 7 (by omega))
section
variable (X:Nat->BitVec 8) (o k n m:Nat)
def nuT:Tree:=qfa cfgP0 20000 26 [.slice ⟨0,.sym o⟩ (.sym n) (.sym m)] [rowF X k]
theorem jah:outO [] (nuT X o k n m) []=((8<=n)::mapN (fun i=>o+i<k) (qra 8 0),some (.int .u64 (.b64 (numB X o)),[])):=by kernel_rfl
end
def slA (v:SV) (f:Nat->Nat->Nat->R α):R α:=match v with
 | .slice a l _=>f a.nm a.off.den l.den
 | .tail a k l _=>f a.nm (a.off.den+k.den) l.den
 | _=>.stuck 7910
theorem jle {v:SV} {f:Nat->Nat->Nat->R α} {φ:α->Prop} (h:∀ nm o n,(∀ β x,0<n->v.den β=some x->∃ m,(SV.slice ⟨nm,.sym o⟩ (.sym n) (.sym m)).den β=some x)->(f nm o n).Sat φ):(slA v f).Sat φ:=by
 unfold slA
 split
 . rename_i a l c
   refine h _ _ _ fun β x _ hx => ?_
   obtain ⟨m,_,hm,_⟩:=qcf hx
   exact ⟨m,hm⟩
 . rename_i a k l c
   refine h _ _ _ fun β x hn hx => ?_
   rw [qdc] at hx
   obtain ⟨A,C,hA,hC,hle,rfl⟩:=hx
   refine ⟨C,?_⟩
   have h2:(⟨a.nm,.sym (a.off.den+k.den)⟩:SA).den β=some (A.add k.den):=by
    obtain ⟨l',hl,rfl⟩:=SA.den_some hA
    rw [q8a]
    show (β a.nm).map _=_
    rw [hl,Option.map_some,Nat.add_assoc]; rfl
   rw [den_slice]
   refine ⟨_,C,h2,rfl,hle,?_⟩
   rw [if_neg (by omega)]; rfl
 . trivial
def nuSm:Summ:=fun args H _=>qad args fun v=>slA v fun nm o n=>q2f (nth H nm) fun X k=>.need (8<=n/\o+8<=k) (.ok ⟨.int .u64 (.sym ((beN X o 8:Nat):Int)),[],[]⟩)
theorem nuOK:qdb Tryd.prog 26 nuSm:=by
 intro glob O w0 β H w base args vs hH hG ha
 refine qob fun v hv=>jle fun nm o n hs=>qid fun X k hX => ?_
 rintro ⟨h8,hk⟩
 rw [hv] at ha
 obtain ⟨x,xs,hx,hxs,rfl⟩:=denL_cons.1 ha
 rw [denL_nil] at hxs; subst hxs
 obtain ⟨m,hm⟩:=hs β x (by omega) hx
 refine qqc cfgP0OK 20000 hH ⟨[nm],[rowF X k],[.slice ⟨0,.sym o⟩ (.sym n) (.sym m)]⟩ (by intro g j hg; cases hg) ?_ (Ifc.fitsQ (by simp) rfl ⟨⟨?_,fun _=>rfl⟩,trivial⟩) [] (by simp) (by simp) (q2b (jah X o k n m) (all_cons h8 ?_) fun H2 _=>⟨?_,rfl,trivial,trivial⟩)
 . exact denL_cons.2 ⟨x,[],hm,rfl,rfl⟩
 . obtain ⟨e,he,hq⟩:=hX (Ifc.big ⟨[nm],[rowF X k],[.slice ⟨0,.sym o⟩ (.sym n) (.sym m)]⟩)
   rw [qca] at he
   exact ⟨e,he,hq⟩
 . intro p hp
   rw [qja,qya] at hp
   obtain ⟨i,hi,rfl⟩:=List.mem_map.1 hp
   have:=(List.mem_range'_1.1 hi).2
   omega
 . refine qza ?_
   show (((numB X o).toNat:Nat):Int)=_
   rw [jke]; rfl
end
end Go.Proofs.YthkgcljngalafaaDoor.Aes
