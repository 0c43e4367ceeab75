/-
  Texts behind one another: the symbolic simulator and what it is told of the program.
-/
import Derived.Test.YthkgcljngalafaaDoorZrRpl3
import Derived.Test.YthkgcljngalafaaDoorPr7
import Derived.Test.YthkgcljngalafaaDoorPr12
import Derived.Test.YthkgcljngalafaaDoorPr6
import Derived.WideShapes
import Derived.ChangeShapes
import Derived.ChangeSlices
import Derived.Deep.Strs
import Derived.Deep.Slices
namespace Go.Proofs.YthkgcljngalafaaDoor.Aes
noncomputable section
open Go.Sim
open Go.Proofs
variable {α:Type}
set_option maxRecDepth 1000000
theorem qrv (z:Nat->Nat->Nat):allL [] (qka qw4 20000 7 [] (shaH [])) z =
  ((0+1<=1)::(0+1<=1/\1<=1099511627776)::(0+1<=1/\1<=1099511627776)::(0+1<=1/\1<=1099511627776)::(0+1<=1/\1<=1099511627776)::[K1,K2,K3,K4,K5,K6,K7,K8,K9],repN (some (.bool (.lit true),[])) 2):=by kernel_rfl
theorem known_ob:(qka qw4 20000 7 [] (shaH [])).Ob (endP [] (.bool (.lit true)) []) fun _=>False:=by
 refine q40 (fun z p hp => ?_) fun z r hr => ?_
 . rw [qrv z] at hp
   simp only [List.mem_cons,List.not_mem_nil,or_false] at hp
   rcases hp with rfl | rfl | rfl | rfl | rfl | rfl | rfl | rfl | rfl | rfl | rfl | rfl | rfl | rfl
   . exact Nat.le_refl _
   . exact ⟨Nat.le_refl _,by omega⟩
   . exact ⟨Nat.le_refl _,by omega⟩
   . exact ⟨Nat.le_refl _,by omega⟩
   . exact ⟨Nat.le_refl _,by omega⟩
   . exact K1_ok
   . exact K2_ok
   . exact K3_ok
   . exact K4_ok
   . exact K5_ok
   . exact K6_ok
   . exact K7_ok
   . exact K8_ok
   . exact K9_ok
 . rw [qrv z,qgd] at hr
   exact List.eq_of_mem_replicate hr
def jzc (args:List SV) (r:R α):R α:=List.rec (motive:=fun _=>R α) r (fun _ _ _=>.stuck 700) args
theorem q67 {args:List SV} {r:R α} {φ:α->Prop} (h:args=[]->r.Sat φ):(jzc args r).Sat φ:=by
 cases args with
 | nil=>exact h rfl
 | cons=>trivial
def exS:Summ:=fun args H _=>jzc args (shaT H (.ok ⟨.bool (.lit true),[],[]⟩))
theorem exOK:SumAt Tryd.prog q4c 7 exS:=by
 intro O w0 β H w base args vs hH hG ha
 refine q67 fun hv=>qzm fun hT => ?_
 rw [hv] at ha
 exact qnj j9e 20000 hH (shaI [] [] []) (qgi hG) ha (Ifc.fits (by simp [shaI]) rfl (qbk hT trivial)) [] (by simp) (by simp) (known_ob.mono fun v H h=>by rw [h.1]; exact qvs rfl rfl rfl)
end
noncomputable section
open Go.Sim
open Go.Proofs
variable {α:Type}
set_option maxRecDepth 1000000
def slP (b n k:Nat):SV:=.slice ⟨b,.lit 0⟩ (.sym n) (.sym k)
section
variable (V:Nat->Value) (N n i:Nat) (z:Nat->Nat->Nat)
def aW:Int:=vNum (V (0+i * 4+0))
def aT:Int:=vNum (V (0+i * 4+1))
def aN:Int:=vNum (V (0+i * 4+2))
def aB:BitVec 8:=BitVec.ofInt 8 (vNum (V (0+i * 4+3)))
def fit4 (a:Nat):Prop:=fitK (.i .i64) (V (a+0))/\fitK (.i .i64) (V (a+1))/\fitK (.i .i64) (V (a+2))/\fitK (.i .u8) (V (a+3))/\True
def plA (q:List Prop):List Prop:=(decide ((i:Int)<(n:Int))=true)::((0:Int)<=(i:Int)/\(i:Int)<(n:Int))::(0+i * 4+4<=N)::fit4 V (0+i * 4)::q
end
def seP (names:List Nat) (q:Nat) (C:Cut):Option ((SV × List (Option SO)) ⊕ Seen):=some (.inr (q2a names q C))
section
variable (f:HashF) (sk lm:Int) (V:Nat->Value) (N n k:Nat) (es:List MapEntry) (c:Nat) (cl fe:Int) (l:List Mk) (i:Nat) (J:Junk) (z:Nat->Nat->Nat)
end
end
noncomputable section
open Go.Sim
open Go.Proofs
open Go.RowKit (Below)
variable {α:Type}
set_option maxRecDepth 1000000
def qfd (V:Nat->Value) (n:Nat):Prop:=∀ i,i<n->(∃ x,V (i * 4)=.int .i64 x)/\(∃ x,V (i * 4+1)=.int .i64 x)/\(∃ x,V (i * 4+2)=.int .i64 x)/\∃ x:BitVec 8,V (i * 4+3)=.int .u8 (x.toNat:Int)
theorem qhz {V:Nat->Value} {n i:Nat} (h:qfd V n) (hi:i<n):fit4 V (0+i * 4):=by
 obtain ⟨⟨a,ha⟩,⟨b,hb⟩,⟨c,hc⟩,d,hd⟩:=h i hi
 unfold fit4
 rw [Nat.zero_add,Nat.add_zero,ha,hb,hc,hd]
 exact ⟨fun _=>rfl,fun _=>rfl,fun _=>rfl,jnc _,trivial⟩
section
variable {f:HashF} {d:ChD} {w t now:Int} {b:BitVec 8}
end
structure PlS where
 mn:Bool
 es:List MapEntry
 c:Nat
 cl:Int
 fe:Int
 l:List Mk
 i:Nat
structure PlS.fit (sk lm:Int) (n:Nat) (a:PlS):Prop where
 w:ChW a.es a.c sk lm a.cl a.fe
 nil:a.mn=true->lsM a.es=[]
 ls:a.mn=false->lsM a.es=a.l
 le:a.i<=n
section
variable {sk lm:Int} {V:Nat->Value} {N n k:Nat}
end
end
noncomputable section
open Go.Sim
open Go.Proofs
variable {α:Type}
set_option maxRecDepth 1000000
section
variable (f:HashF) (sk lm:Int) (V:Nat->Value) (N n k:Nat) (many:Int) (es:List MapEntry) (c:Nat) (cl fe:Int) (l:List Mk) (i:Nat) (J:Junk) (z:Nat->Nat->Nat)
def tru:Option (SV × List (Option SO)):=some (.bool (.lit true),[])
end
section
variable (f:HashF) (sk lm:Int) (V:Nat->Value) (N n k:Nat) (many cl fe:Int) (l:List Mk) (U:Nat->Value) (m j:Nat) (J:Junk) (z:Nat->Nat->Nat)
end
end
noncomputable section
open Go.Sim Go.WideShapes Go.ChangeShapes
section
variable {H:Type} {enc:TypeId × Value->H} {P:Program} {w:World} {r:Reach} {b0 base:Nat} {held:Bool}
theorem q6q {ti:TypeId} {n:Nat} {c:Value} {y:DataW H × List MemPlace} (hi:P.underlying ti=some (.int .i64)) (k:DataW.trod enc P w base (fun _=>true) held n ti [c]=some y):∃ z,c=.int .i64 z:=by
 obtain ⟨z,e,_,_⟩:=DataW.trod_int hi k
 exact ⟨z,by simpa using e⟩
end
end
noncomputable section
open Go.Sim Go.WideShapes Go.ChangeShapes
open Go.Proofs
open Go.RowKit
variable {α:Type}
set_option maxRecDepth 1000000
theorem q77 {P:Program} {w:World} {β:Val} {H:List SO} (h:HeapRel P (fun _=>False) w β H w) {x:Addr} {len cap M:Nat} {V:Nat->Value} (hs:x.spot=none) (hl:len<=cap)
  (hx:∀ i,i<M->w.cell? (x.add i)=some (V i)) :
  ∃ β',HeapRel P (fun _=>False) w β' (H++[.row (.raw V M)]) w/\β.le β'/\(slP H.length len cap).den β'=some (.slice (some x) len cap):=by
 have hsn:=h.snoc (Go.Sim.Loc.mk x.block x.off 0) (.row (.raw V M)) ?_ (fun ho=>by cases ho)
 . refine ⟨_,hsn.1,hsn.2,?_⟩
   simp only [slP,SV.den,SA.den,SC.den,Val.upd_same,Option.map_some,Option.bind_some,SN.den,Nat.add_zero,q5m]
   cases x; cases hs
   exact if_pos hl
 . refine ⟨_,(List.range M).map V,Val.upd_same ..,⟨by simp,fun i y hy => ?_⟩,fun i y hy => ?_⟩
   . rw [List.getElem?_map] at hy
     cases hi:(List.range M)[i]? with
     | none=>rw [hi] at hy; cases hy
     | some j =>
       rw [hi] at hy; cases hy
       obtain ⟨h1,h2⟩:=List.getElem?_eq_some_iff.1 hi
       rw [List.getElem_range] at h2
       subst h2; rfl
   . rw [List.getElem?_map] at hy
     cases hi:(List.range M)[i]? with
     | none=>rw [hi] at hy; cases hy
     | some j =>
       rw [hi] at hy; cases hy
       obtain ⟨h1,h2⟩:=List.getElem?_eq_some_iff.1 hi
       rw [List.getElem_range] at h2
       subst h2
       have hi:i<M:=by simpa using h1
       have hc:=hx i hi
       have e:(x.add i:Addr)=⟨x.block,x.off+i,none⟩:=by
        cases x; cases hs
        unfold Addr.add
        split
        . rename_i h0; rw [h0]; rfl
        . rfl
       rw [e] at hc
       refine ⟨?_,fun f=>f,hc⟩
       unfold World.cell? at hc
       show x.block<w.heap.size
       by_cases hb:x.block<w.heap.size
       . exact hb
       . have hn:w.heap[x.block]? = none:=Array.getElem?_eq_none (by omega)
         simp only [hn] at hc
         cases hc
def ActRow (w:World) (a:Option Addr) (len cap:Nat) (V:Nat->Value):Prop :=
 (a=none/\len=0/\cap=0)\/∃ x,a=some x/\x.spot=none/\len<=cap/\(∀ i,i<cap * 4->w.cell? (x.add i)=some (V i))/\qfd V cap
def actV (q:Nat->Int × Int × Int × BitVec 8) (j:Nat):Value:=if j % 4=0 then .int .i64 (q (j / 4)).1 else if j % 4=1 then .int .i64 (q (j / 4)).2.1 else if j % 4=2 then .int .i64 (q (j / 4)).2.2.1 else .int .u8 ((q (j / 4)).2.2.2.toNat:Int)
theorem qu1 (q:Nat->Int × Int × Int × BitVec 8) (i:Nat):actV q (i * 4)=.int .i64 (q i).1/\actV q (i * 4+1)=.int .i64 (q i).2.1/\actV q (i * 4+2)=.int .i64 (q i).2.2.1/\actV q (i * 4+3)=.int .u8 ((q i).2.2.2.toNat:Int):=by
 unfold actV
 refine ⟨?_,?_,?_,?_⟩
 . rw [if_pos (by omega),show i * 4 / 4=i by omega]
 . rw [if_neg (by omega),if_pos (by omega),show (i * 4+1) / 4=i by omega]
 . rw [if_neg (by omega),if_neg (by omega),if_pos (by omega),show (i * 4+2) / 4=i by omega]
 . rw [if_neg (by omega),if_neg (by omega),if_neg (by omega),show (i * 4+3) / 4=i by omega]
theorem jaf (q:Nat->Int × Int × Int × BitVec 8) (n:Nat):qfd (actV q) n:=fun i hi=>by
 obtain ⟨h0,h1,h2,h3⟩:=qu1 q i
 exact ⟨⟨_,h0⟩,⟨_,h1⟩,⟨_,h2⟩,_,h3⟩
theorem jbf {H:Type} {enc:TypeId × Value->H} {P:Program} {w:World} {base:Nat} {held:Bool} {ti:TypeId} {n:Nat} {c:Value} {y:DataW H × List MemPlace} (hi:P.underlying ti=some (.int .u8)) (k:DataW.trod enc P w base (fun _=>true) held n ti [c]=some y):∃ x:BitVec 8,c=.int .u8 (x.toNat:Int):=by
 obtain ⟨z,e,h1,h2⟩:=DataW.trod_int hi k
 have hn:(0:Int)<=z/\z<=255:=by
  simp [Lit.wf,IntKind.min,IntKind.max,IntKind.signed,IntKind.bits] at h1 h2
  omega
 refine ⟨BitVec.ofInt 8 z,?_⟩
 rw [BitVec.toNat_ofInt]
 have:c=.int .u8 z:=by simpa using e
 rw [this]
 congr 1
 omega
section
variable {H:Type} {enc:TypeId × Value->H} {P:Program} {w:World} {r:Reach} {b0 base:Nat} {held:Bool}
theorem cell_acts4 {ts te ti tx:TypeId} {f0 f1 f2 f3:Field} {n:Nat} {c:Value} {y:DataW H × List MemPlace} (hs:P.underlying ts=some (.slice te)) (he:P.underlying te=some (.struct #[f0,f1,f2,f3])) (h0:f0.type=ti/\f0.offset=0) (h1:f1.type=ti/\f1.offset=1) (h2:f2.type=ti/\f2.offset=2) (h3:f3.type=tx/\f3.offset=3)
  (hi:P.underlying ti=some (.int .i64)) (hx:P.underlying tx=some (.int .u8)) (ce:P.cellsOf te=4) (ci:P.cellsOf ti=1) (cx:P.cellsOf tx=1) (k:DataW.trod enc P w base (fun _=>true) held n ts [c]=some y) (hsp:∀ x l m,c=.slice (some x) l m->x.spot=none) :
  ∃ a len cap V,c=.slice a len cap/\ActRow w a len cap V:=by
 rcases Go.Deep.open_slice hs k with ⟨hc,_⟩ | ⟨x,l,m,q,n',D,Pl,hc,_,hl,_,hq,_,hcell⟩
 . obtain rfl:c=.slice none 0 0:=by simpa using hc
   exact ⟨none,0,0,fun _=>.bool true,rfl,.inl ⟨rfl,rfl,rfl⟩⟩
 . obtain rfl:c=.slice (some x) l m:=by simpa using hc
   rw [if_pos rfl] at hq
   subst hq
   have each:∀ i,i<q->∃ p:Int × Int × Int × BitVec 8,w.cell? (x.add (i * 4))=some (.int .i64 p.1)/\w.cell? (x.add (i * 4+1))=some (.int .i64 p.2.1)/\w.cell? (x.add (i * 4+2))=some (.int .i64 p.2.2.1)/\w.cell? (x.add (i * 4+3))=some (.int .u8 (p.2.2.2.toNat:Int)):=by
    intro i hiq
    obtain ⟨cs',g1,g2⟩:=hcell i hiq
    rw [ce] at g1
    obtain ⟨_,hlen,hcl⟩:=World.cells?_some g1
    obtain ⟨xs,k',_,_,_,hxl,hf⟩:=DataW.trod_struct he g2
    match xs,hxl,cs',hlen with
    | [y0,y1,y2,y3],_,[v0,v1,v2,v3],_ =>
      have k0:=hf 0 f0 rfl
      have k1:=hf 1 f1 rfl
      have k2:=hf 2 f2 rfl
      have k3:=hf 3 f3 rfl
      rw [h0.1,h0.2,ci] at k0
      rw [h1.1,h1.2,ci] at k1
      rw [h2.1,h2.2,ci] at k2
      rw [h3.1,h3.2,cx] at k3
      obtain ⟨z,rfl⟩:=q6q hi (show DataW.trod enc P w base (fun _=>true) held k' ti [v0]=some y0 from k0)
      obtain ⟨s,rfl⟩:=q6q hi (show DataW.trod enc P w base (fun _=>true) held k' ti [v1]=some y1 from k1)
      obtain ⟨t,rfl⟩:=q6q hi (show DataW.trod enc P w base (fun _=>true) held k' ti [v2]=some y2 from k2)
      obtain ⟨u,rfl⟩:=jbf hx (show DataW.trod enc P w base (fun _=>true) held k' tx [v3]=some y3 from k3)
      have e0:=hcl 0 (by omega)
      have e1:=hcl 1 (by omega)
      have e2:=hcl 2 (by omega)
      have e3:=hcl 3 (by omega)
      rw [Go.Deep.add_add] at e0 e1 e2 e3
      exact ⟨(z,s,t,u),by simpa using e0,by simpa using e1,by simpa using e2,by simpa using e3⟩
   obtain ⟨p,hp⟩:=Go.Deep.choose_lt each
   refine ⟨some x,l,q,actV p,rfl,.inr ⟨x,rfl,hsp _ _ _ rfl,hl,fun j hj => ?_,jaf p q⟩⟩
   obtain ⟨e0,e1,e2,e3⟩:=hp (j / 4) (by omega)
   obtain ⟨v0,v1,v2,v3⟩:=qu1 p (j / 4)
   rcases (show j=j / 4 * 4\/j=j / 4 * 4+1\/j=j / 4 * 4+2\/j=j / 4 * 4+3 by omega) with c | c | c | c
   . rw [c,v0]; exact e0
   . rw [c,v1]; exact e1
   . rw [c,v2]; exact e2
   . rw [c,v3]; exact e3
end
end
noncomputable section
open Go.Sim
open Go.Proofs
open Go.RowKit (Below)
variable {α:Type}
set_option maxRecDepth 1000000
inductive LoS
 | a (s:PlS)
 | b (cl fe:Int) (l:List Mk) (j:Nat)
 | d (cl fe:Int) (l:List Mk) (j:Nat)
section
variable (sk lm:Int) (V:Nat->Value) (N n k:Nat) (many:Int)
end
section
variable {sk lm:Int} {V:Nat->Value} {N n k:Nat} {many:Int}
end
end
noncomputable section
open Go.Sim
open Go.Proofs
variable {α:Type}
set_option maxRecDepth 1000000
def rlOn (f:HashF):List (FuncId × Summ):=[(17,dgSm (tabF f)),(16,jvc),(13,ueSm),(15,feSm),(14,ckSm),(12,nwSm),(8,loSm),(11,imSm),(18,enSm),(7,exS)]
def qge (f:HashF):Cfg:=cfgG q4c (qjc (rlOn f))
def colls (m:Nat):List SD:=Nat.rec [] (fun j ih=>.coll (10+j)::ih) m
def setDs (ds:List SD) (l:List SP):List SP:=List.rec (motive:=fun _=>List SP) [] (fun p r _=>⟨p.fn,p.tmps,p.todo,ds,p.roundOf⟩::r) l
def onT (f:HashF) (sk lm:Int) (V:Nat->Value) (N n k:Nat) (st:Option (Nat × Nat)):Tree:=qka ((qge f).at st) 20000 4 [.int .i64 (.sym sk),.int .i64 (.sym lm),slP 4 n k] (shaH [.row (.raw V N)])
def onLv (lm:Int) (n k:Nat) (i:Nat) (L:SV):List (Nat × SV):=[(1,.int .i64 (.sym lm)),(2,slP 4 n k),(3,.ptr ⟨5,.lit 0⟩),(6,.ptr ⟨6,.lit 0⟩),(7,.ptr ⟨9,.lit 0⟩),(9,L),(10,.int .i64 (.sym (i:Int)))]
def onK (mt:Bool) (m q:Nat):SV:=boolC mt .nilSlice (.slice ⟨10+m,.lit 0⟩ (.sym q) (.rest (10+m) 0))
def onF (f:HashF) (sk lm:Int) (V:Nat->Value) (N n k:Nat) (mt:Bool) (m q i:Nat):List SP:=setDs (colls m) (qke (qmd (onT f sk lm V N n k (some (1,3))) [false,true]).frames [onLv lm n k i (onK mt m q)])
def onH (sk lm:Int) (V:Nat->Value) (N:Nat) (mt:Bool) (m:Nat) (es:List MapEntry) (c:Nat) (cl fe:Int) (T:Nat->Value) (q:Nat) (r:List HP):List HP:=app (mapN HP.ent (shaH [.row (.raw V N),.own (.lst [.int .i64 (.sym sk)]) true 3,.own (.lst [.bool (.lit false)]) true 4,chO 8 sk lm cl fe,.obj (.amap kMk uMk es c),.own (.lst [.ptr ⟨7,.lit 0⟩]) true 24])) (app (repN (.ent (.deferred (some []))) m) (app (boolC mt [] [.ent (.own (.raw T (q * 4)) false 39)]) r))
def onC (f:HashF) (sk lm:Int) (V:Nat->Value) (N n k:Nat) (mt:Bool) (m:Nat) (es:List MapEntry) (c:Nat) (cl fe:Int) (T:Nat->Value) (q i:Nat):Cut:=⟨onF f sk lm V N n k mt m q i,onH sk lm V N mt m es c cl fe T q []⟩
def on1 (f:HashF) (sk lm:Int) (V:Nat->Value) (N n k:Nat) (mt:Bool) (m:Nat) (es:List MapEntry) (c:Nat) (cl fe:Int) (T:Nat->Value) (q i:Nat) (J:Junk) (st:Option (Nat × Nat)):Tree:=sim1 ((qge f).at st) 20000 ((onC f sk lm V N n k mt m es c cl fe T q i).fill J)
def onV (V:Nat->Value) (i:Nat):SO:=.own (.lst [.int .i64 (.sym (aW V i)),.int .i64 (.sym (aT V i)),.int .i64 (.sym (aN V i)),.int .u8 (.b8 (aB V i))]) true 39
def onS2 (f:HashF) (sk lm:Int) (V:Nat->Value) (N n k m:Nat) (T:Nat->Value) (q i:Nat):SS:=qmd (on1 f sk lm V N n k false m [] 0 0 0 T q i ⟨fun _ _=>undef,fun _ _=>undef⟩ (some (1,10))) [true,false,false,false,true,false]
def onA (f:HashF) (sk lm:Int) (V:Nat->Value) (N n k m:Nat) (es:List MapEntry) (c:Nat) (cl fe:Int) (T:Nat->Value) (q i j:Nat):Cut:=⟨qke (onS2 f sk lm V N n k m T q i).frames [app (onLv lm n k i (onK false m q)) [(11,.ptr ⟨11+m,.lit 0⟩),(15,.int .i64 (.sym (j:Int)))]],onH sk lm V N false m es c cl fe T q [.ent (onV V i)]⟩
def on2 (f:HashF) (sk lm:Int) (V:Nat->Value) (N n k m:Nat) (es:List MapEntry) (c:Nat) (cl fe:Int) (T:Nat->Value) (q i j:Nat) (J:Junk) (st:Option (Nat × Nat)):Tree:=sim1 ((qge f).at st) 20000 ((onA f sk lm V N n k m es c cl fe T q i j).fill J)
def onS (f:HashF) (sk lm:Int) (V:Nat->Value) (N n k:Nat) (mt:Bool) (m i:Nat):SS:=qmd (on1 f sk lm V N n k mt m [] 0 0 0 V 0 i ⟨fun _ _=>undef,fun _ _=>undef⟩ (some (2,0))) [true,true,true]
def onE (mt:Bool) (m:Nat):Nat:=boolC mt (11+m) (12+m)
def onTm (lm:Int) (n k:Nat) (mt:Bool) (m q i:Nat):List (Nat × SV):=app (onLv lm n k i (onK mt m q)) [(16,.func (.fn (.func 39)) [] [.ptr ⟨onE mt m,.lit 0⟩])]
def onTl:List (Nat × SV):=[(3,.ptr ⟨5,.lit 0⟩),(6,.ptr ⟨6,.lit 0⟩),(7,.ptr ⟨9,.lit 0⟩)]
def onM (mt:Bool) (m z:Nat):SV:=.slice ⟨onE mt m+1,.lit 0⟩ (.sym z) (.sym z)
def onB (f:HashF) (sk lm:Int) (V:Nat->Value) (N n k:Nat) (mt:Bool) (m:Nat) (es:List MapEntry) (c:Nat) (cl fe:Int) (T:Nat->Value) (q i j:Nat):Cut:=⟨qke (onS f sk lm V N n k mt m i).frames [[(0,.func (.yield (onE mt m+3)) [] []),(5,onM mt m es.length),(6,.int .i64 (.sym (es.length:Int))),(7,.int .i64 (.sym (j:Int)))],onTm lm n k mt m q i],
 onH sk lm V N mt m es c cl fe T q [.ent .gone,.ent (.own (.lst [onM mt m es.length]) true 77),.ent (soR (rowM (lsM es)) es.length),.ent (.deferred (some [])),jjc (nth (onS f sk lm V N n k mt m i).heap (onE mt m+3)) onTl]⟩
def on3 (f:HashF) (sk lm:Int) (V:Nat->Value) (N n k:Nat) (mt:Bool) (m:Nat) (es:List MapEntry) (c:Nat) (cl fe:Int) (T:Nat->Value) (q i j:Nat) (J:Junk) (st:Option (Nat × Nat)):Tree:=sim1 ((qge f).at st) 20000 ((onB f sk lm V N n k mt m es c cl fe T q i j).fill J)
def onD (sk lm:Int) (es:List MapEntry) (c:Nat) (cl fe:Int):ChD:=doC es c sk lm cl fe 7 8
def onN (l:List Nat) (a b:Nat) (r:List Nat):List Nat:=app (qba a 0) (app l (app (qba b 10) r))
def w5 (V:Nat->Value) (i k:Nat) (b:Bool):Prop:=(aW V i == (k:Int))=b
def onG (f:HashF) (V:Nat->Value) (i:Nat):Mk:=xK f (aT V i) (aB V i)
def qhi (f:HashF) (V:Nat->Value) (i:Nat) (d:ChD):Int:=d.e (onG f V i) (aN V i)
def onEs (f:HashF) (V:Nat->Value) (i:Nat) (d:ChD):List MapEntry:=prM (qhi f V i d) (onG f V i) (d.esN (aN V i)) d.c
def onCs (f:HashF) (V:Nat->Value) (i:Nat) (d:ChD):Nat:=prC (qhi f V i d) d.c
def mxN (cl now:Int):Int:=if cl<now then now else cl
def onVs (V:Nat->Value) (i:Nat):List Value:=[.int .i64 (aW V i),.int .i64 (aT V i),.int .i64 (aN V i),.int .u8 ((aB V i).toNat:Int)]
def q5c (V:Nat->Value) (i:Nat):Nat->Value:=fun j=>atV (onVs V i) (0+j)
def qze (T:Nat->Value) (q:Nat) (V:Nat->Value) (i:Nat):Nat->Value:=catV (fun j=>T (0+j)) (q * 4) (q5c V i)
def j0c (V:Nat->Value) (i:Nat):SO:=.own (.lst [.int .i64 (.sym (aW V i)),.int .i64 (.sym (aT V i)),.int .i64 (.sym (aN V i)),.int .u8 (.b8 (aB V i))]) false 39
def mo7:List (Nat × Nat × SV):=[(0,7,.int .i64 (.lit 0))]
def sM (ms:List (Nat × Nat × SV)) (es:List (Nat × HP)) (names:List Nat) (q:Nat) (C:Cut):Option ((SV × List (Option SO)) ⊕ Seen):=some (.inr (qtc ms es (q2a names q C)))
def onZ (f:HashF) (sk lm:Int):Tree:=qka (qge f) 20000 4 [.int .i64 (.sym sk),.int .i64 (.sym lm),.nilSlice] (shaH [])
theorem qhu:CfgOK (qge shaG):=qrd (by
 intro y hy
 rcases List.mem_cons.1 hy with rfl | hy
 . exact dgOK
 rcases List.mem_cons.1 hy with rfl | hy
 . exact prOK2 _
 rcases List.mem_cons.1 hy with rfl | hy
 . exact ueOK _
 rcases List.mem_cons.1 hy with rfl | hy
 . exact feOK _
 rcases List.mem_cons.1 hy with rfl | hy
 . exact ckOK _
 rcases List.mem_cons.1 hy with rfl | hy
 . exact nwOK _
 rcases List.mem_cons.1 hy with rfl | hy
 . exact loOK _
 rcases List.mem_cons.1 hy with rfl | hy
 . exact imOKs _
 rcases List.mem_cons.1 hy with rfl | hy
 . exact enOK _
 . obtain rfl:=List.mem_singleton.1 hy
   exact exOK)
end
end Go.Proofs.YthkgcljngalafaaDoor.Aes
