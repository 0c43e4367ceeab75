/-
  Texts behind one another: the symbolic simulator and what it is told of the program.
-/
import Derived.Test.YthkgcljngalafaaDoorZrRsm2
import Derived.Test.YthkgcljngalafaaDoorPr7
import Derived.Test.YthkgcljngalafaaDoorPr6
import Derived.Tactics
import Derived.Tactics2
import Derived.Recover
import Derived.Laws.Pointers
namespace Go.Proofs.YthkgcljngalafaaDoor.Aes
noncomputable section
open Go.Sim
open Go.Proofs
variable {α:Type}
set_option maxRecDepth 1000000
def lit1 (v:SV):SV:=v.asInt v fun k n=>SI.rec (motive:=fun _=>SV) (fun _=>v) (fun _=>v) (fun x=>.int k (.lit (Int.ofNat x.toNat))) (fun _=>v) (fun _=>v) n
def litV (v:SV):SV:=v.asAgg v fun l=>.agg (mapN lit1 l)
theorem j0a (v:SV):v.Imp (lit1 v):=by
 unfold lit1
 rcases q2b v with ⟨k,n,rfl⟩ | hv
 . cases n <;> first | exact .refl _ | exact q8c rfl
 . rw [hv]; exact .refl _
theorem qmv:∀ l:List SV,SV.ImpL l (mapN lit1 l)
 | []=>.refl _
 | v::l=>qpa (j0a v) (qmv l)
theorem j1a (v:SV):v.Imp (litV v):=by
 unfold litV
 rcases qik v with ⟨l,rfl⟩ | hv
 . intro γ x hx
   simp only [SV.den,Option.map_eq_some_iff] at hx
   obtain ⟨us,hus,rfl⟩:=hx
   show (SV.agg (mapN lit1 l)).den γ=_
   simp only [SV.den,Option.map_eq_some_iff]
   exact ⟨us,qmv l _ _ hus,rfl⟩
 . rw [hv]; exact .refl _
def j4g (l:List SV):Bool:=allN (fun v=>v.asInt false fun _ n=>n.asLit false fun _=>true) l
theorem SumSem.imp {P:Program} {H:List SO} {β:Val} {w:World} {base:Nat} {f:FuncId} {vs:List Value} {v u:SV} {sets:List (Nat × SO)} {news:List SO} (h:SumSem P H β w base f vs ⟨v,sets,news⟩) (hi:v.Imp u):SumSem P H β w base f vs ⟨u,sets,news⟩:=by
 intro hf
 obtain ⟨h1,h2⟩:=h hf
 refine ⟨h1,?_⟩
 rcases h2 with ⟨hb,hc⟩ | ⟨x,w',β',hx,hv,hE⟩
 . refine .inl ⟨hb,fun cs => ?_⟩
   obtain ⟨e,w',fr,⟨x,β',h3,h4,h5⟩,h6⟩:=hc cs
   exact ⟨e,w',fr,⟨x,β',h3,hi _ _ h4,h5⟩,h6⟩
 . exact .inr ⟨x,w',β',hx,hi _ _ hv,hE⟩
def qaz (S:Summ):Summ:=fun args H base =>
 qye args fun v=>v.asSlice (S args H base) fun a _ _=>optC (q5d (nth H a.nm)) (S args H base) fun cs=>boolC (j4g cs) ((S args H base).bind fun r=>.ok ⟨litV r.v,r.sets,r.news⟩) (S args H base)
theorem qnv {P:Program} {glob:Nat->Option Nat} {f:FuncId} {S:Summ} (h:SumAt P glob f S):SumAt P glob f (qaz S):=by
 intro O w0 β H w base args vs hH hG ha
 have hS:=h O w0 β H w base args vs hH hG ha
 refine qic fun v _ => ?_
 rcases asSlice_cases v with ⟨a,l,c,rfl⟩ | hno
 . show R.Sat (optC (q5d (nth H a.nm)) (S args H base) _) _
   cases q5d (nth H a.nm) with
   | none=>exact hS
   | some cs=>exact q6e (fun _=>hS.bind fun r hr=>SumSem.imp hr (j1a _)) fun _=>hS
 . rw [hno]; exact hS
def shaS:Summ:=qaz (jpc shaF)
def jtc:Summ:=qaz (qu4 shaF 1099511627776)
theorem shaOK:SumAt Tryd.prog q4c 44 shaS:=qnv (SumAt.up sumOK)
theorem j5g:SumAt Tryd.prog q4c 38 jtc:=qnv jsc
def tabF (f:(Nat->BitVec 8)->Nat->Nat->BitVec 8) (X:Nat->BitVec 8) (n:Nat):List (BitVec 8):=mapN (fun i=>f X n i) [0,1,2,3,4,5,6,7,8,9,10,11,12,13,14,15,16,17,18,19,20,21,22,23,24,25,26,27,28,29,30,31]
def shaG (X:Nat->BitVec 8) (n i:Nat):BitVec 8:=optC (nth (shaF X n) i) 0#8 fun x=>x
theorem jxe:tabF shaG=shaF:=by kernel_rfl
end
noncomputable section
open Go.Sim
open Go.Proofs
variable {α:Type}
set_option maxRecDepth 1000000
def prE (sk lm k fe:Int) (x:Mk) (u:List Mk):Int:=boolC (cB (x.1<k - sk\/k+sk<x.1)) 3 (boolC (cB (x.1<=fe)) 8 (boolC (cB (x∈u)) 11 (boolC (cB (lm<=(u.length:Int))) 7 0)))
def isZ (e:Int):Bool:=eqI e 0
theorem qho (sk lm k fe:Int) (x:Mk) (u:List Mk) :
  ((x.1<k - sk\/k+sk<x.1)/\prE sk lm k fe x u=3)\/(¬ (x.1<k - sk\/k+sk<x.1)/\x.1<=fe/\prE sk lm k fe x u=8)\/(¬ (x.1<k - sk\/k+sk<x.1)/\¬ x.1<=fe/\x∈u/\prE sk lm k fe x u=11) \/
  (¬ (x.1<k - sk\/k+sk<x.1)/\¬ x.1<=fe/\x ∉ u/\lm<=(u.length:Int)/\prE sk lm k fe x u=7)\/(¬ (x.1<k - sk\/k+sk<x.1)/\¬ x.1<=fe/\x ∉ u/\¬ lm<=(u.length:Int)/\prE sk lm k fe x u=0):=by
 unfold prE
 by_cases h1:x.1<k - sk\/k+sk<x.1
 . rw [qsb h1]; exact .inl ⟨h1,rfl⟩
 rw [qfb h1]
 by_cases h2:x.1<=fe
 . rw [qsb h2]; exact .inr (.inl ⟨h1,h2,rfl⟩)
 rw [qfb h2]
 by_cases h3:x∈u
 . rw [qsb h3]; exact .inr (.inr (.inl ⟨h1,h2,h3,rfl⟩))
 rw [qfb h3]
 by_cases h4:lm<=(u.length:Int)
 . rw [qsb h4]; exact .inr (.inr (.inr (.inl ⟨h1,h2,h3,h4,rfl⟩)))
 . rw [qfb h4]; exact .inr (.inr (.inr (.inr ⟨h1,h2,h3,h4,rfl⟩)))
def prL (e:Int) (x:Mk) (u:List Mk):List Mk:=boolC (isZ e) (insM x u) u
def prM (e:Int) (x:Mk) (es:List MapEntry) (c:Nat):List MapEntry:=boolC (isZ e) (insK es c (keyM x) (.agg #[])) es
def prC (e:Int) (c:Nat):Nat:=boolC (isZ e) (c+1) c
def ChD.u (d:ChD) (now:Int):List Mk:=lsM (d.esN now)
def ChD.e (d:ChD) (x:Mk) (now:Int):Int:=prE d.sk.den d.lm.den (d.k now) d.fe.den x (d.u now)
def juc (d:ChD) (e:Int) (cl fe:Int) (es:List MapEntry) (c:Nat):R SumRes:=.ok ⟨.int .i64 (.sym e),qsw d.nm d.mm d.sk.den d.lm.den cl fe es c,[]⟩
def jvc:Summ:=fun args H _=>jhc args fun p g t n=>chV H p fun d=>optC (dgV g) (.stuck 7979) fun g=>optC (i64V t) (.stuck 7978) fun t=>optC (i64V n) (.stuck 7978) fun now=>.need d.w
 (.fork (cB (vTm t.den/\vTm now.den)) (juc d (d.e (t.den,g) now.den) (d.k now.den) d.fe.den (prM (d.e (t.den,g) now.den) (t.den,g) (d.esN now.den) d.c) (prC (d.e (t.den,g) now.den) d.c)) (chOk d 2 d.cl.den d.fe.den d.es d.c))
theorem prOK2:qob Tryd.prog 16 jvc:=by
 intro glob O w0 β H w base args vs hH hG ha
 refine qx6 fun p g t n hv=>qap fun d hd=>qia fun g hg=>qia fun t ht=>qia fun now hn => ?_
 rw [hv,hd.ptr,qbf hn,qbf ht] at ha
 intro hw
 have h:=j3d (base:=base) hH hd hg ha hw
 refine ⟨fun hc => ?_,fun hc=>h.2 hc⟩
 have h:=h.1 hc
 obtain ⟨_,hnow⟩:=cBi.1 hc
 have hu:=hw.use hnow
 have go:∀ {e:Int} {cl fe:Int} {es:List MapEntry} {c:Nat},d.e (t.den,g) now.den=e->(chOk d e cl fe es c).Sat (SumSem Tryd.prog H β w base 16 vs)->(juc d (d.e (t.den,g) now.den) cl fe es c).Sat (SumSem Tryd.prog H β w base 16 vs):=fun {e cl fe es c} he hs =>
  SumSem.imp hs (q9a (by rw [he]; rfl))
 have hk:∀ m,hasK (d.esN now.den) (keyM m)=cB (m∈d.u now.den):=fun m=>hu.ok.hasB m
 have hl:(d.esN now.den).length=(d.u now.den).length:=hu.len
 rcases qho d.sk.den d.lm.den (d.k now.den) d.fe.den (t.den,g) (d.u now.den) with ⟨h1,he⟩ | ⟨h1,h2,he⟩ | ⟨h1,h2,h3,he⟩ | ⟨h1,h2,h3,h4,he⟩ | ⟨h1,h2,h3,h4,he⟩
 . have he':d.e (t.den,g) now.den=3:=he
   have:=go he' (h.1 (qsb h1))
   rw [he'] at this ⊢
   exact this
 . have he':d.e (t.den,g) now.den=8:=he
   have:=go he' ((h.2 (qfb h1)).1 (qsb h2))
   rw [he'] at this ⊢
   exact this
 . have he':d.e (t.den,g) now.den=11:=he
   have:=go he' (((h.2 (qfb h1)).2 (qfb h2)).1 (by rw [hk]; exact qsb h3))
   rw [he'] at this ⊢
   exact this
 . have he':d.e (t.den,g) now.den=7:=he
   have:=go he' ((((h.2 (qfb h1)).2 (qfb h2)).2 (by rw [hk]; exact qfb h3)).1 (by rw [hl]; exact qsb h4))
   rw [he'] at this ⊢
   exact this
 . have he':d.e (t.den,g) now.den=0:=he
   have:=go he' ((((h.2 (qfb h1)).2 (qfb h2)).2 (by rw [hk]; exact qfb h3)).2 (by rw [hl]; exact qfb h4))
   rw [he'] at this ⊢
   exact this
end
noncomputable section
open Go.Sim
open Go.Proofs
variable {α:Type}
theorem jye (a b:Value) (w:World) :
  CallsD Tryd.prog 24 #[a,b] .returning w fun e u' w'=>e=.returned (.tuple #[])/\u'=.returning/\w'=w:=by
 refine callsD_of_wpS Tryd.func24 rfl fun c₀ cs hu => ?_
 apply wpS_seq
 apply wpS_region
 simp [wpOpsS,go_sem,recoverD,hu,Tryd.ntmps24,Exit.thenS]
 apply wpS_seq
 apply wpS_region
 simp [wpOpsS,go_sem,recoverD,hu,Exit.thenS]
 refine wpS_cond (t:=false) (by simp [Act.eval,Array.replicate]) ?_
 simp only [Bool.false_eq_true,if_false]
 refine wpS_of_wp (wp_skip ?_)
 cases c₀
 simp_all [bodyPostS,results,Tryd.results24]
theorem j6g (pc pe:Addr) (x y:Value) (n:Int) (w:World) (hc:w.cell? pc=some x) (hz:w.frozen? pc=false) (he:w.cell? pe=some y) (hy:w.frozen? pe=false) (hne:pc≠pe) :
  CallsD Tryd.prog 24 #[.pointer (some pc),.pointer (some pe)] (.panicking [{ v:=.iface 25 (.int .i64 n),recovered:=false }]) w fun e u' w' =>
   e=.returned (.tuple #[])/\u'=.panicking [{ v:=.iface 25 (.int .i64 n),recovered:=true }]/\w'=(w.setCell pc (.pointer none)).setCell pe (.int .i64 n):=by
 refine callsD_of_wpS Tryd.func24 rfl fun c₀ cs hu => ?_
 apply wpS_seq
 apply wpS_region
 simp [wpOpsS,go_sem,recoverD,hu,Tryd.ntmps24,Exit.thenS]
 apply wpS_seq
 apply wpS_region
 simp [wpOpsS,go_sem,recoverD,Exit.thenS]
 refine wpS_cond (t:=true) (by simp [Act.eval,Array.replicate]) ?_
 simp only [if_true]
 apply wpS_seq
 apply wpS_region
 simp [wpOpsS,go_sem,recoverD,Exit.thenS,Instr.typeAssert,Instr.extract]
 apply wpS_seq
 apply wpS_seq
 apply wpS_region
 simp [wpOpsS,go_sem,recoverD,Exit.thenS]
 refine wpS_cond (t:=false) (by simp [Act.eval,Act.put,Array.replicate]) ?_
 simp only [Bool.false_eq_true,if_false]
 refine wpS_of_wp (wp_skip ?_)
 simp only [Exit.thenS]
 apply wpS_region
 have hy2:(w.setCell pc (.pointer none)).frozen? pe=false:=by simpa using hy
 have hy':(w.setCell pc (.pointer none)).cell? pe=some y:=(World.cell?_setCell_other w pc pe _ hne).trans he
 simp [wpOpsS,go_sem,Act.put,Act.eval,hc,hz,hy2,hy',bodyPostS,results,Tryd.results24]
end
end Go.Proofs.YthkgcljngalafaaDoor.Aes
namespace Go.Sim
noncomputable section
theorem qbz {P:Program} {β:Val} {w:World} {n:Nat} {v:SV} {wh:Bool} {el:TypeId} (h:OwnRel P β w n (.own (.lst [v]) wh el)) :
  ∃ l x rest lo hi,β n=some l/\l.off=0/\w.heap[l.blk]? = some (.cells (x::rest).toArray el (lo,hi))/\w.cell? ⟨l.blk,0,none⟩=some x/\w.frozen? ⟨l.blk,0,none⟩=false /\
    ∀ (w1:World) (u:SV) (y:Value),u.den β=some y->w1.heap[l.blk]? = w.heap[l.blk]? ->
      w1.setCell ⟨l.blk,0,none⟩ y={ w1 with heap:=w1.heap.setIfInBounds l.blk (.cells (y::rest).toArray el (lo,hi)) } /\
      ∀ w2:World,w2.heap[l.blk]? = some (.cells (y::rest).toArray el (lo,hi))->OwnRel P β w2 n (.own (.lst [u]) wh el):=by
 obtain ⟨l,vs,rest,lo,hi,hl,h0,hc,hh,hfz,hw,hcap⟩:=h
 obtain ⟨x,xs,hx,hxs,rfl⟩:=denL_cons.1 (show SV.denL β [v]=some vs from hc)
 rw [denL_nil] at hxs; subst hxs
 have hlt:l.blk<w.heap.size:=(Array.getElem?_eq_some_iff.1 hh).1
 refine ⟨l,x,rest,lo,hi,hl,h0,hh,?_,?_,fun w1 u y hy h1=>⟨?_,fun w2 h2 => ?_⟩⟩
 . simp [World.cell?,hh]
 . have:=hfz.at 0 (by simp)
   simp only [World.frozen?,hh]
   simp; omega
 . simp only [World.setCell]
   congr 1
   apply Array.ext_getElem?
   intro j
   rw [Array.getElem?_modify,Array.getElem?_setIfInBounds]
   split
   . rename_i h; subst h
     simp only [h1,hh,Option.map_some]
     have:l.blk<w1.heap.size:=by
      rw [hh] at h1
      exact (Array.getElem?_eq_some_iff.1 h1).1
     simp [this]
   . rfl
 . refine ⟨l,[y],rest,lo,hi,hl,h0,?_,h2,by simpa using hfz,hw,by simpa using hcap⟩
   show SV.denL β [u]=some [y]
   exact denL_cons.2 ⟨y,[],hy,rfl,rfl⟩
end
end Go.Sim
namespace Go.Proofs.YthkgcljngalafaaDoor.Aes
noncomputable section
open Go.Sim
open Go.Proofs
variable {α:Type}
def ldS1:Summ:=fun args _ _=>qbe args fun _ _=>.ok ⟨.tuple [],[],[]⟩
def errV (v:SV):Option SI:=match v with
 | .iface t (.int .i64 n)=>boolC (Nat.beq t 25) (some n) none
 | _=>none
theorem q17 {v:SV} {n:SI} (h:errV v=some n):v=.iface 25 (.int .i64 n):=by
 unfold errV at h
 split at h
 . rename_i t m
   cases ht:Nat.beq t 25 with
   | false=>rw [ht] at h; cases h
   | true=>rw [ht] at h; cases h; rw [Nat.eq_of_beq_eq_true ht]
 . cases h
def cel1 (e:SO):Option (SV × Bool × TypeId):=match e with
 | .own (.lst [v]) w el=>some (v,w,el)
 | _=>none
theorem qov {e:SO} {r:SV × Bool × TypeId} (h:cel1 e=some r):e=.own (.lst [r.1]) r.2.1 r.2.2:=by
 unfold cel1 at h
 split at h
 . cases h; rfl
 . cases h
def ldS2:Summ:=fun args H _=>qts args fun v pc pe=>optC (errV v) (.stuck 7900) fun n=>optC (q8o pc) (.stuck 7901) fun m=>optC (q8o pe) (.stuck 7901) fun k=>optC (nth H m) (.stuck 7902) fun e=>optC (cel1 e) (.stuck 7903) fun r =>
 optC (nth H k) (.stuck 7902) fun e=>optC (cel1 e) (.stuck 7903) fun q=>boolC (Nat.beq m k) (.stuck 7904) (.ok ⟨.tuple [],[(m,.own (.lst [.nilPtr]) r.2.1 r.2.2),(k,.own (.lst [.int .i64 n]) q.2.1 q.2.2)],[]⟩)
theorem ldDef (glob:Nat->Option Nat):DefAt Tryd.prog glob 24 (ldS1,ldS2) where
 ret:=by
  intro O w0 β H w base args vs hH hG ha
  show (ldS1 args H base).Sat _
  refine q5b fun a b hv => ?_
  rw [hv] at ha
  obtain ⟨x,xs,hx,hxs,rfl⟩:=denL_cons.1 ha
  obtain ⟨y,ys,hy,hys,rfl⟩:=denL_cons.1 hxs
  rw [denL_nil] at hys; subst hys
  refine fun _=>⟨fun _ _ h=>(by cases h),⟨_,Tryd.func24,by kernel_rfl⟩,(jye x y w).mono ?_⟩
  rintro e u' w' ⟨rfl,rfl,rfl⟩
  exact ⟨⟨_,rfl⟩,rfl,β,Eff.refl _ _ _ _⟩
 pan:=by
  intro O w0 β H w base v x args vs hH hG hv ha
  show (ldS2 (v::args) H base).Sat _
  refine q4j fun v' pc pe hv' => ?_
  obtain ⟨rfl,rfl⟩:=List.cons.inj hv'
  refine qia fun n hn=>qia fun m hm=>qia fun k hk=>qia fun e he=>qia fun r hr=>qia fun e2 he2=>qia fun q hq => ?_
  cases hmk:Nat.beq m k with
  | true=>exact trivial
  | false =>
    have hne:m≠k:=fun h=>by rw [h,Nat.beq_refl] at hmk; cases hmk
    rw [qda] at he he2
    rw [qov hr] at he
    rw [qov hq] at he2
    rw [qwi hm,qwi hk] at ha
    rw [q17 hn] at hv
    simp only [SV.den,Option.map_some,Option.some.injEq] at hv
    subst hv
    refine fun _=>⟨fun i e hi => ?_,⟨_,Tryd.func24,by kernel_rfl⟩,?_⟩
    . rcases List.mem_cons.1 hi with h | h
      . cases h; exact ⟨_,he,rfl⟩
      . obtain h:=List.mem_singleton.1 h
        cases h; exact ⟨_,he2,rfl⟩
    obtain ⟨l1,x1,r1,lo1,hi1,hl1,o1,hh1,hc1,hz1,k1⟩:=qbz (show OwnRel Tryd.prog β w m (.own (.lst [r.1]) r.2.1 r.2.2) from (hH.entries _ _ he).toOwn rfl)
    obtain ⟨l2,x2,r2,lo2,hi2,hl2,o2,hh2,hc2,hz2,k2⟩:=qbz (show OwnRel Tryd.prog β w k (.own (.lst [q.1]) q.2.1 q.2.2) from (hH.entries _ _ he2).toOwn rfl)
    have hb:l1.blk≠l2.blk:=hH.sep _ _ _ _ _ _ he he2 rfl rfl hne hl1 hl2
    have hvs:vs=[.pointer (some ⟨l1.blk,0,none⟩),.pointer (some ⟨l2.blk,0,none⟩)]:=by
     have:SV.denL β [.ptr ⟨m,.lit 0⟩,.ptr ⟨k,.lit 0⟩]=some [.pointer (some ⟨l1.blk,0,none⟩),.pointer (some ⟨l2.blk,0,none⟩)]:=by
      simp [SV.denL,SV.den,SA.den,hl1,hl2,SN.den,o1,o2]
     rw [this] at ha; exact (Option.some.inj ha).symm
    subst hvs
    refine (j6g ⟨l1.blk,0,none⟩ ⟨l2.blk,0,none⟩ x1 x2 n.den w hc1 hz1 hc2 hz2 (fun e=>hb (congrArg Addr.block e))).mono ?_
    rintro e u' w' ⟨rfl,rfl,rfl⟩
    refine ⟨⟨_,rfl⟩,rfl,β,?_⟩
    obtain ⟨e1,f1⟩:=k1 w .nilPtr (.pointer none) rfl rfl
    have hs1:l1.blk<w.heap.size:=(Array.getElem?_eq_some_iff.1 hh1).1
    have hs2:l2.blk<w.heap.size:=(Array.getElem?_eq_some_iff.1 hh2).1
    rw [e1]
    obtain ⟨e2,f2⟩:=k2 { w with heap:=w.heap.setIfInBounds l1.blk (.cells (Value.pointer none::r1).toArray r.2.2 (lo1,hi1)) } (.int .i64 n) (.int .i64 n.den) rfl (by simp [hb])
    rw [e2]
    exact {
     le:=Val.le_refl β
     os:=rfl
     tape:=rfl
     output:=rfl
     drawn:=Nat.le_refl _
     size:=by simp
     dom:=fun _ _=>rfl
     frame:=fun b _ hn=>by
      have h1:=hn m _ l1 (List.mem_cons_self) hl1
      have h2:=hn k _ l2 (List.mem_cons_of_mem _ List.mem_cons_self) hl2
      simp [h1,h2]
     one:=fun i a b ha hb=>by
      rcases List.mem_cons.1 ha with h | h <;> rcases List.mem_cons.1 hb with h' | h'
      . cases h; cases h'; rfl
      . cases h; cases List.mem_singleton.1 h'; exact absurd rfl hne
      . cases List.mem_singleton.1 h; cases h'; exact absurd rfl hne
      . cases List.mem_singleton.1 h; cases List.mem_singleton.1 h'; rfl
     turned:=fun i a ha=>by
      rcases List.mem_cons.1 ha with h | h
      . cases h
        refine f1 _ ?_
        simp [hs1,Ne.symm hb]
      . cases List.mem_singleton.1 h
        refine f2 _ ?_
        simp [hs2]
     made:=fun i a ha=>by simp at ha
     apart:=fun i j l l' _ hi=>by simp at hi }
end
noncomputable section
open Go.Sim
open Go.Proofs
variable {α:Type}
set_option maxRecDepth 1000000
def beN (X:Nat->BitVec 8) (o:Nat):Nat->Nat
 | 0=>0
 | k+1=>256 * beN X o k+(X (o+k)).toNat
theorem q27 (X:Nat->BitVec 8) (o:Nat):∀ k,beN X o k<256 ^ k
 | 0=>by simp [beN]
 | k+1=>by
   have:=q27 X o k
   have:=(X (o+k)).isLt
   rw [beN,Nat.pow_succ]; omega
def numW (X:Nat->BitVec 8) (o i:Nat):BitVec 64:=(X (o+i)).setWidth 64
def numB (X:Nat->BitVec 8) (o:Nat):BitVec 64 :=
 ((((((((BitVec.ofInt 64 0 ||| numW X o 0) <<< 8 ||| numW X o 1) <<< 8 ||| numW X o 2) <<< 8 ||| numW X o 3) <<< 8 ||| numW X o 4) <<< 8 ||| numW X o 5) <<< 8 ||| numW X o 6) <<< 8 ||| numW X o 7)
theorem q6f {a:BitVec 64} {x:BitVec 8} {n:Nat} (h:a.toNat=n) (hn:n<72057594037927936):(a <<< 8 ||| x.setWidth 64).toNat=256 * n+x.toNat:=by
 have hx:=x.isLt
 rw [BitVec.toNat_or,BitVec.toNat_shiftLeft,BitVec.toNat_setWidth,h,Nat.mod_eq_of_lt (a:=x.toNat) (by omega),Nat.mod_eq_of_lt (by rw [Nat.shiftLeft_eq]; omega),← Nat.shiftLeft_add_eq_or_of_lt (by simpa using hx),Nat.shiftLeft_eq]
 omega
theorem jze (X:Nat->BitVec 8) (o:Nat):(numB X o).toNat=beN X o 8:=by
 have h0:(BitVec.ofInt 64 0 ||| numW X o 0).toNat=beN X o 1:=by
  have hx:=(X (o+0)).isLt
  unfold numW
  rw [BitVec.toNat_or,BitVec.toNat_setWidth,Nat.mod_eq_of_lt (by omega)]
  simp [beN]
 have hb:∀ k,k<=7->beN X o k<72057594037927936:=fun k hk=>Nat.lt_of_lt_of_le (q27 X o k) (Nat.le_trans (Nat.pow_le_pow_right (by omega) hk) (by decide))
 exact q6f (q6f (q6f (q6f (q6f (q6f (q6f h0 (hb 1 (by omega))) (hb 2 (by omega))) (hb 3 (by omega))) (hb 4 (by omega))) (hb 5 (by omega))) (hb 6 (by omega))) (hb 7 (by omega))
section
variable (X:Nat->BitVec 8) (o k n m:Nat)
def nuT:Tree:=qka cfgP0 20000 26 [.slice ⟨0,.sym o⟩ (.sym n) (.sym m)] [rowF X k]
theorem j7g:outO [] (nuT X o k n m) []=((8<=n)::mapN (fun i=>o+i<k) (qba 8 0),some (.int .u64 (.b64 (numB X o)),[])):=by kernel_rfl
end
def slA (v:SV) (f:Nat->Nat->Nat->R α):R α:=match v with
 | .slice a l _=>f a.nm a.off.den l.den
 | .tail a k l _=>f a.nm (a.off.den+k.den) l.den
 | _=>.stuck 7910
theorem j0e {v:SV} {f:Nat->Nat->Nat->R α} {φ:α->Prop} (h:∀ nm o n,(∀ β x,0<n->v.den β=some x->∃ m,(SV.slice ⟨nm,.sym o⟩ (.sym n) (.sym m)).den β=some x)->(f nm o n).Sat φ):(slA v f).Sat φ:=by
 unfold slA
 split
 . rename_i a l c
   refine h _ _ _ fun β x _ hx => ?_
   obtain ⟨m,_,hm,_⟩:=q9e hx
   exact ⟨m,hm⟩
 . rename_i a k l c
   refine h _ _ _ fun β x hn hx => ?_
   rw [qbc] at hx
   obtain ⟨A,C,hA,hC,hle,rfl⟩:=hx
   refine ⟨C,?_⟩
   have h2:(⟨a.nm,.sym (a.off.den+k.den)⟩:SA).den β=some (A.add k.den):=by
    obtain ⟨l',hl,rfl⟩:=SA.den_some hA
    rw [q6a]
    show (β a.nm).map _=_
    rw [hl,Option.map_some,Nat.add_assoc]; rfl
   rw [den_slice]
   refine ⟨_,C,h2,rfl,hle,?_⟩
   rw [if_neg (by omega)]; rfl
 . trivial
def nuSm:Summ:=fun args H _=>qye args fun v=>slA v fun nm o n=>qai (nth H nm) fun X k=>.need (8<=n/\o+8<=k) (.ok ⟨.int .u64 (.sym ((beN X o 8:Nat):Int)),[],[]⟩)
theorem nuOK:qob Tryd.prog 26 nuSm:=by
 intro glob O w0 β H w base args vs hH hG ha
 refine qic fun v hv=>j0e fun nm o n hs=>qce fun X k hX => ?_
 rintro ⟨h8,hk⟩
 rw [hv] at ha
 obtain ⟨x,xs,hx,hxs,rfl⟩:=denL_cons.1 ha
 rw [denL_nil] at hxs; subst hxs
 obtain ⟨m,hm⟩:=hs β x (by omega) hx
 refine qsd cfgP0OK 20000 hH ⟨[nm],[rowF X k],[.slice ⟨0,.sym o⟩ (.sym n) (.sym m)]⟩ (by intro g j hg; cases hg) ?_ (Ifc.fitsQ (by simp) rfl ⟨⟨?_,fun _=>rfl⟩,trivial⟩) [] (by simp) (by simp) (qpc (j7g X o k n m) (all_cons h8 ?_) fun H2 _=>⟨?_,rfl,trivial,trivial⟩)
 . exact denL_cons.2 ⟨x,[],hm,rfl,rfl⟩
 . obtain ⟨e,he,hq⟩:=hX (Ifc.big ⟨[nm],[rowF X k],[.slice ⟨0,.sym o⟩ (.sym n) (.sym m)]⟩)
   rw [qda] at he
   exact ⟨e,he,hq⟩
 . intro p hp
   rw [qla,qcb] at hp
   obtain ⟨i,hi,rfl⟩:=List.mem_map.1 hp
   have:=(List.mem_range'_1.1 hi).2
   omega
 . refine q9a ?_
   show (((numB X o).toNat:Nat):Int)=_
   rw [jze]; rfl
end
noncomputable section
open Go.Sim
open Go.Proofs
variable {α:Type}
set_option maxRecDepth 1000000
section
variable (m n:Mk)
def cpT:Tree:=qka cfgB 4000 28 [mkS m,mkS n] []
theorem cp_lt:outO [] (cpT m n) [false,false,true]=(s1A m n [decide (m.1<n.1)=true],some (.int .i64 (.lit (-1)),[])):=by kernel_rfl
theorem cp_gt:outO [] (cpT m n) [false,false,false,true]=(s1A m n [decide (m.1<n.1)=false,decide (m.1 > n.1)=true],some (.int .i64 (.lit 1),[])):=by kernel_rfl
theorem cp_eq:outO [] (cpT m n) [false,false,false,false]=(s1A m n ((decide (m.1<n.1)=false)::(decide (m.1 > n.1)=false)::s1B),some (.int .i64 (.sym (Extern.BytealgCompare.cmp (mkB (dgX m) 32) (mkB (dgX n) 32))),[])):=by kernel_rfl
end
theorem cpOKm:qob Tryd.prog 28 s1S:=by
 intro glob O w0 β H w base args vs hH hG ha
 refine q5b fun a b hv=>qia fun m hm=>qia fun n hn => ?_
 rw [hv] at ha
 have ha:=qpa (qmm hm) (qpa (qmm hn) qcd) _ _ ha
 show SumSem Tryd.prog H β w base _ vs ⟨.int .i64 (.sym (cfM m n)),[],[]⟩
 have hr:∀ (f:Nat->Nat) (m:Mk),(mkS m).ren f=mkS m:=fun f m=>by kernel_rfl
 have hu:∀ (p:Nat->Bool) (m:Mk),(mkS m).uses p=true:=fun p m=>by kernel_rfl
 have go:∀ {ds ps v},outO [] (cpT m n) ds=(ps,some (.int .i64 v,[]))->(∀ p∈ps,p)->v.den=cfM m n->SumSem Tryd.prog H β w base 28 vs ⟨.int .i64 (.sym (cfM m n)),[],[]⟩:=fun {ds ps v} hrun hp hv=>by
  refine qsd q86 4000 hH ⟨[],[],[mkS m,mkS n]⟩ (by intro g j hg; cases hg) ?_ (Ifc.fitsQ (by simp) (by show ((mkS m).uses _ && ((mkS n).uses _ && true))=true; rw [hu,hu]; rfl) trivial) [] (by simp) (by simp) (qpc hrun hp fun H2 _=>⟨?_,rfl,trivial,trivial⟩)
  . show SV.denL β [(mkS m).ren _,(mkS n).ren _]=_
    rw [hr,hr]; exact ha
  . show SV.Imp (.int .i64 v) _
    exact q9a hv
 have h0:∀ (m:Mk),(m.1 != m.1)=false:=fun m=>by simp
 by_cases c:m.1<n.1
 . exact go (cp_lt m n) (all_cons (h0 m) (all_cons (h0 n) (all_cons (decide_eq_true c) qca))) (by unfold cfM; rw [if_pos c]; rfl)
 . by_cases c2:m.1 > n.1
   . exact go (cp_gt m n) (all_cons (h0 m) (all_cons (h0 n) (all_cons (decide_eq_false c) (all_cons (decide_eq_true c2) qca)))) (by unfold cfM; rw [if_neg c,if_pos c2]; rfl)
   . refine go (cp_eq m n) (all_cons (h0 m) (all_cons (h0 n) (all_cons (decide_eq_false c) (all_cons (decide_eq_false c2) (quc ⟨Nat.le_refl _,.inl (by omega),trivial⟩ 2))))) ?_
     show Extern.BytealgCompare.cmp (mkB (dgX m) 32) (mkB (dgX n) 32)=_
     unfold cfM
     rw [if_neg c,if_neg c2,q9o,q9o]; rfl
def rlLd:List (FuncId × Summ):=[(28,s1S),(26,nuSm)]
def ldD:FuncId->Option (Summ × Summ):=fun f=>boolC (Nat.beq f 24) (some (ldS1,ldS2)) none
def cfgLd:Cfg:={ P:=Tryd.prog,glob:=fun _=>none,sums:=qjc rlLd,stopAt:=none,dsum:=ldD }
theorem qp1:CfgOK cfgLd:=by
 have h:CfgOK (qvh (qjc rlLd)):=q8d (allC cpOKm (all1 nuOK))
 refine ⟨h.prog,h.sums,fun f s hs => ?_⟩
 rcases qnc (show boolC (Nat.beq f 24) (some (ldS1,ldS2)) none=some s from hs) with ⟨hf,h⟩ | h
 . cases h; rw [qzb hf]; exact ldDef _
 . cases h
end
noncomputable section
open Go.Sim
open Go.Proofs
variable {α:Type}
set_option maxRecDepth 1000000
def mkE0 (t:Int) (Y:Nat->BitVec 8):List SV:=.int .i64 (.sym t)::mapN (fun j=>.int .u8 (.b8 (Y j))) (qba 32 0)
def keyY (t:Int) (Y:Nat->BitVec 8):Value:=.agg (.int .i64 t::mapN (fun j=>.int .u8 ((Y j).toNat:Int)) (qba 32 0)).toArray
def mkY (t:Int) (Y:Nat->BitVec 8):Mk:=(t,dgOf (qya (mapN Y (qba 32 0))))
def tmI (X:Nat->BitVec 8) (o:Nat):Int:=IntKind.i64.wrap ((beN X o 8:Nat):Int)
def dgI (X:Nat->BitVec 8) (o:Nat):Nat->BitVec 8:=fun j=>X (o+j)
def ldN:List Nat:=[0,1,2,3,4,5]
def ldG:List Bool:=[false,false,false,false,true,false,false,false,false]
section
variable (X:Nat->BitVec 8) (n m:Nat)
def ldT (st:Option (Nat × Nat)):Tree:=qka (cfgLd.at st) 20000 8 [.slice ⟨0,.lit 0⟩ (.sym n) (.sym m)] [rowF X n]
def ldS:SS:=qmd (ldT X n m (some (1,3))) ldG
variable (p len q:Nat) (es:List MapEntry) (c:Nat) (sk lm cl fe t:Int) (Y:Nat->BitVec 8) (J:Junk) (z:Nat->Nat->Nat)
def pcO (v:SV):SO:=.own (.lst [v]) true 24
def peO (v:SI):SO:=.own (.lst [.int .i64 v]) true 25
def jwc:SO:=.own (.lst (mkE0 t Y)) true 65
def ldC:Cut:=⟨qke (ldS X n 0).frames [[(2,.ptr ⟨1,.lit 0⟩),(3,.ptr ⟨2,.lit 0⟩),(6,.ptr ⟨5,.lit 0⟩),(7,.tail ⟨0,.sym p⟩ (.lit 40) (.sym len) (.sym q))]],
 [.ent (rowF X n),.ent (pcO (.ptr ⟨4,.lit 0⟩)),.ent (peO (.lit 0)),.ent (.obj (.amap kMk uMk es c)),.ent (chO 3 sk lm cl fe),.ent (jwc t Y)]⟩
def ld1 (st:Option (Nat × Nat)):Tree:=sim1 (cfgLd.at st) 20000 ((ldC X n p len q es c sk lm cl fe t Y).fill J)
def ldQ (r:List Prop):List Prop:=(decide ((len:Int) > 0)=true)::IsB (qab X)::(8<=len/\p+40+8<=n)::r
def ldOv:Prop:=(!decide (((beN X (p+40) 8:Nat):Int)<=1099511627776))=true
def ldQ1 (r:List Prop):List Prop:=ldQ X n p len (((!decide (((beN X (p+40) 8:Nat):Int)<=1099511627776))=false)::(0<len)::(40<=len)::(p+40+8+32<=n)::qsa (tmI X (p+40)+sk)::r)
def ldQ2 (r:List Prop):List Prop:=ldQ1 X n p len sk ((decide (tmI X (p+40)+sk>=cl)=true)::qsa (cl+sk)::r)
def ldQ3 (r:List Prop):List Prop:=ldQ2 X n p len sk cl (((!decide (tmI X (p+40)<=cl+sk))=false)::r)
def ldK:Value:=keyY (tmI X (p+40)) (dgI X (p+40+8))
theorem j8g:outL [3,4] (ldC X n p len q es c sk lm cl fe t Y) ldN (ld1 X n p len q es c sk lm cl fe t Y J none) [false] z=([decide ((len:Int) > 0)=false],some (.inl (.tuple [.ptr ⟨4,.lit 0⟩,.int .i64 (.lit 0)],[some (.obj (.amap kMk uMk es c)),some (chO 3 sk lm cl fe)]))):=by kernel_rfl
theorem ld_ov:outL [] (ldC X n p len q es c sk lm cl fe t Y) ldN (ld1 X n p len q es c sk lm cl fe t Y J none) [true,true] z=(ldQ X n p len [ldOv X p],some (.inl (.tuple [.nilPtr,.int .i64 (.lit 6)],[]))):=by kernel_rfl
theorem j9g:outL [] (ldC X n p len q es c sk lm cl fe t Y) ldN (ld1 X n p len q es c sk lm cl fe t Y J none) (true::repN false 14) z=(ldQ1 X n p len sk (repN (decide (tmI X (p+40)+sk>=cl)=false) 13),some (.inl (.tuple [.nilPtr,.int .i64 (.lit 6)],[]))):=by kernel_rfl
theorem j1e:outL [] (ldC X n p len q es c sk lm cl fe t Y) ldN (ld1 X n p len q es c sk lm cl fe t Y J none) [true,false,true,true] z=(ldQ2 X n p len sk cl [(!decide (tmI X (p+40)<=cl+sk))=true],some (.inl (.tuple [.nilPtr,.int .i64 (.lit 6)],[]))):=by kernel_rfl
theorem jah:outL [] (ldC X n p len q es c sk lm cl fe t Y) ldN (ld1 X n p len q es c sk lm cl fe t Y J none) [true,false,true,false,false,true] z=(ldQ3 X n p len sk cl [((es.length:Int) == 0)=false,(!decide (cfM (mkY t Y) (mkY (tmI X (p+40)) (dgI X (p+40+8)))<0))=true],some (.inl (.tuple [.nilPtr,.int .i64 (.lit 6)],[]))):=by kernel_rfl
theorem j2a:outL [] (ldC X n p len q es c sk lm cl fe t Y) ldN (ld1 X n p len q es c sk lm cl fe t Y J (some (1,3))) [true,false,true,false,true,true,true,true,true,false] z=(ldQ3 X n p len sk cl (app (repN (((es.length:Int) == 0)=true) 5) [hasK es (ldK X p)=false,0<len,40<=len]),
 some (.inr (q2a ldN 7 (ldC X n (p+40) (len - 40) (q - 40) (insK es c (ldK X p) (.agg #[])) (c+1) sk lm cl fe (tmI X (p+40)) (dgI X (p+40+8)))))):=by kernel_rfl
theorem j2e:outL [] (ldC X n p len q es c sk lm cl fe t Y) ldN (ld1 X n p len q es c sk lm cl fe t Y J (some (1,3))) [true,false,true,false,false,false,false] z=(ldQ3 X n p len sk cl [((es.length:Int) == 0)=false,(!decide (cfM (mkY t Y) (mkY (tmI X (p+40)) (dgI X (p+40+8)))<0))=false,hasK es (ldK X p)=false,0<len,40<=len],
 some (.inr (q2a ldN 7 (ldC X n (p+40) (len - 40) (q - 40) (insK es c (ldK X p) (.agg #[])) (c+1) sk lm cl fe (tmI X (p+40)) (dgI X (p+40+8)))))):=by kernel_rfl
theorem ld_n (p' len' q':Nat) (es':List MapEntry) (c':Nat) (t':Int) (Y':Nat->BitVec 8):boolC (q0a 1 ldN (ldC X n p' len' q' es' c' sk lm cl fe t' Y') (ldC X n p len q es c sk lm cl fe t Y)) (allN qva (ldC X n p len q es c sk lm cl fe t Y).heap) false=true:=by kernel_rfl
end
end
noncomputable section
open Go.Sim
open Go.Proofs
variable {α:Type}
set_option maxRecDepth 1000000
def bnI (X:Nat->BitVec 8) (o:Nat):Int:=((beN X o 8:Nat):Int)
def rqN (n:Nat):Nat:=(BitVec.ofInt 64 ((n:Int) - 40)).toNat
def zMk:SO:=.own (.lst (.int .i64 (.lit 0)::mapN (fun _=>.int .u8 (.lit 0)) (qba 32 0))) true 65
section
variable (X:Nat->BitVec 8) (n m:Nat) (z:Nat->Nat->Nat) (Y:Nat->BitVec 8)
def lhA (r:List Prop):List Prop:=((!decide ((n:Int)>=40))=false)::(32<=n)::IsB (qab X)::(8<=n - 32/\40<=n)::qsa ((n:Int) - 40)::r
def lhB (r:List Prop):List Prop:=lhA X n (((!decide (bnI X 32<=((rqN n / 40 % 18446744073709551616:Nat):Int)))=false)::r)
def lhC (r:List Prop):List Prop:=lhB X n (((!(q2c .u64 (Int.mul (bnI X 32) 40) == ((rqN n:Nat):Int)))=false)::IsB (qab X)::(8<=n/\8<=n)::(8<=n)::IsB (qab X)::(8<=n - 8/\16<=n)::(16<=n)::IsB (qab X)::(8<=n - 16/\24<=n)::(24<=n)::IsB (qab X)::(8<=n - 24/\32<=n)::r)
def lhD (r:List Prop):List Prop:=lhC X n (((!decide (bnI X 0<=1048576))=false)::r)
def lhE (r:List Prop):List Prop:=lhD X n ((decide (bnI X 8>=1)=true)::r)
def lhF (r:List Prop):List Prop:=lhE X n (((!decide (bnI X 8<=65536))=false)::r)
def lhG (r:List Prop):List Prop:=lhF X n (((!decide (bnI X 32<=bnI X 8))=false)::r)
def lhH (r:List Prop):List Prop:=lhG X n (((!decide (bnI X 16<=1099511627776))=false)::r)
def lhI (r:List Prop):List Prop:=lhH X n (((!decide (bnI X 24<=1099511627776+1048576+1))=false)::r)
def ldE (e:Int):Option (SV × List (Option SO)):=some (.tuple [.nilPtr,.int .i64 (.lit e)],[])
theorem lh_1:outO [] (ldT X n m none) [true]=([(!decide ((n:Int)>=40))=true],ldE 4):=by kernel_rfl
theorem lh_2:outO [] (ldT X n m none) [false,true]=(lhA X n [(!decide (bnI X 32<=((rqN n / 40 % 18446744073709551616:Nat):Int)))=true],ldE 4):=by kernel_rfl
theorem lh_3:outO [] (ldT X n m none) [false,false,true]=(lhB X n [(!(q2c .u64 (Int.mul (bnI X 32) 40) == ((rqN n:Nat):Int)))=true],ldE 5):=by kernel_rfl
theorem lh_4:outO [] (ldT X n m none) [false,false,false,true]=(lhC X n [(!decide (bnI X 0<=1048576))=true],ldE 6):=by kernel_rfl
theorem lh_5:outO [] (ldT X n m none) (repN false 7)=(lhD X n (repN (decide (bnI X 8>=1)=false) 3),ldE 6):=by kernel_rfl
theorem lh_6:outO [] (ldT X n m none) [false,false,false,false,true,true]=(lhE X n [(!decide (bnI X 8<=65536))=true],ldE 6):=by kernel_rfl
theorem lh_7:outO [] (ldT X n m none) [false,false,false,false,true,false,true]=(lhF X n [(!decide (bnI X 32<=bnI X 8))=true],ldE 6):=by kernel_rfl
theorem lh_8:outO [] (ldT X n m none) [false,false,false,false,true,false,false,true]=(lhG X n [(!decide (bnI X 16<=1099511627776))=true],ldE 6):=by kernel_rfl
theorem lh_9:outO [] (ldT X n m none) [false,false,false,false,true,false,false,false,true]=(lhH X n [(!decide (bnI X 24<=1099511627776+1048576+1))=true],ldE 6):=by kernel_rfl
theorem lh_ok:outL [] (ldC X n 0 (n - 40) (m - 40) [] 0 (tmI X 0) (tmI X 8) (tmI X 16) (tmI X 24 - 1) 0 Y) ldN (ldT X n m (some (1,3))) ldG z=(lhI X n [qsa (tmI X 24 - 1),40<=n],
 some (.inr (qtc [(0,7,.tail ⟨0,.lit 0⟩ (.lit 40) (.sym (n - 40)) (.sym (m - 40)))] [(3,.ent (.obj (.map [] 0))),(5,.ent zMk)] (q2a ldN 6 (ldC X n 0 (n - 40) (m - 40) [] 0 (tmI X 0) (tmI X 8) (tmI X 16) (tmI X 24 - 1) 0 Y))))):=by kernel_rfl
theorem jbh (p len q:Nat) (es:List MapEntry) (c:Nat) (sk lm cl fe t:Int):(((ldC X n p len q es c sk lm cl fe t Y).frames[0]?).bind fun f=>f.tmps[7]?)=some (some (.tail ⟨0,.sym p⟩ (.lit 40) (.sym len) (.sym q))):=by kernel_rfl
end
end
noncomputable section
open Go.Sim
open Go.Proofs
variable {α:Type}
def cntI (X:Nat->BitVec 8):Nat:=beN X 32 8
def mkX (X:Nat->BitVec 8) (i:Nat):Mk:=(((beN X (40 * i+40) 8:Nat):Int),dgOf fun j=>X (40 * i+40+8+j))
structure HeadOK (X:Nat->BitVec 8):Prop where
 sk:beN X 0 8<=1048576
 lo:1<=beN X 8 8
 hi:beN X 8 8<=65536
 cn:cntI X<=beN X 8 8
 cl:beN X 16 8<=1099511627776
 fe:beN X 24 8<=1099511627776+1048576+1
structure EntOK (X:Nat->BitVec 8) (i:Nat):Prop where
 tm:beN X (40 * i+40) 8<=1099511627776
 lo:bnI X 16<=bnI X (40 * i+40)+bnI X 0
 hi:bnI X (40 * i+40)<=bnI X 16+bnI X 0
 lt:∀ k,i=k+1->mkLt (mkX X k) (mkX X i)
def qlh (X:Nat->BitVec 8):Prop:=∀ i,i<cntI X->EntOK X i
def lkX (X:Nat->BitVec 8) (k:Nat):List Mk:=(List.range k).map (mkX X)
def esX (X:Nat->BitVec 8) (k:Nat):List MapEntry:=(List.range k).map fun i=>⟨keyM (mkX X i),.agg #[],i⟩
theorem j3a (X:Nat->BitVec 8) (k:Nat):lkX X (k+1)=lkX X k++[mkX X k]:=by unfold lkX; rw [List.range_succ,List.map_append]; rfl
theorem qcz (X:Nat->BitVec 8) (k:Nat):esX X (k+1)=insK (esX X k) k (keyM (mkX X k)) (.agg #[]):=by unfold esX insK; rw [List.range_succ,List.map_append]; rfl
theorem j3e (X:Nat->BitVec 8) (k:Nat):(esX X k).length=k:=by simp [esX]
theorem qq1 (X:Nat->BitVec 8) (k:Nat):(lkX X k).length=k:=by simp [lkX]
theorem qv4 {X:Nat->BitVec 8}:∀ {k:Nat},(∀ i,i<k+1->EntOK X i)->∀ j,j<k->mkLt (mkX X j) (mkX X k)
 | 0,_,j,hj=>by omega
 | k+1,h,j,hj=>by
   have h1:=(h (k+1) (by omega)).lt k rfl
   by_cases c:j<k
   . exact qde (qv4 (k:=k) (fun i hi=>h i (by omega)) j c) h1
   . obtain rfl:j=k:=by omega
     exact h1
theorem qpv {m:Mk}:∀ {l:List Mk},(∀ a∈l,mkLt a m)->insM m l=l++[m]
 | [],_=>rfl
 | a::l,h=>by
   unfold insM
   have h1:=h a List.mem_cons_self
   rw [if_neg fun h2=>qte _ (qde h1 h2),qpv fun b hb=>h b (List.mem_cons_of_mem _ hb)]
   rfl
theorem jxc {X:Nat->BitVec 8} {k:Nat} (h:∀ i,i<k+1->EntOK X i):mkX X k ∉ lkX X k:=fun hm=>by
 obtain ⟨j,hj,he⟩:=List.mem_map.1 hm
 have:=qv4 h j (List.mem_range.1 hj)
 rw [he] at this
 exact qte _ this
theorem qdz {X:Nat->BitVec 8}:∀ {k:Nat},(∀ i,i<k->EntOK X i)->MarkOK (esX X k) k (lkX X k)
 | 0,_=>MarkOK.nil 0
 | k+1,h=>by
   have ih:=qdz (X:=X) (k:=k) fun i hi=>h i (by omega)
   have:=ih.ins (jxc h)
   rw [qpv fun a ha => ?_] at this
   . rw [qcz,j3a]; exact this
   . obtain ⟨j,hj,rfl⟩:=List.mem_map.1 ha
     exact qv4 h j (List.mem_range.1 hj)
theorem qez (X:Nat->BitVec 8) (o:Nat):0<=bnI X o:=by unfold bnI; omega
theorem qtj {X:Nat->BitVec 8} {o:Nat} (h:beN X o 8<=1152921504606846976):tmI X o=bnI X o:=by
 unfold tmI bnI
 exact wrap_i64 ⟨by omega,by omega⟩
theorem img_w {X:Nat->BitVec 8} (hh:HeadOK X) (he:qlh X):ChW (esX X (cntI X)) (cntI X) (bnI X 0) (bnI X 8) (bnI X 16) (bnI X 24 - 1)/\lsM (esX X (cntI X))=lkX X (cntI X):=by
 have hm:=qdz he
 have hl:=qdo hm
 have hx:∀ m∈lkX X (cntI X),∃ i,i<cntI X/\m=mkX X i:=fun m h=>by
  obtain ⟨i,hi,rfl⟩:=List.mem_map.1 h
  exact ⟨i,List.mem_range.1 hi,rfl⟩
 have hsk:=hh.sk
 have hlo:=hh.lo
 have hhi:=hh.hi
 have hcn:=hh.cn
 have hcl:=hh.cl
 have hfe:=hh.fe
 refine ⟨⟨by show MarkOK _ _ (lsM _); rw [hl]; exact hm,⟨qez X 0,by unfold bnI; omega⟩,⟨by unfold bnI; omega,by unfold bnI; omega⟩,⟨qez X 16,by unfold bnI; omega⟩,⟨by unfold bnI; omega,by unfold bnI; omega⟩,fun m h => ?_,fun m h => ?_,?_⟩,hl⟩
 . rw [hl] at h
   obtain ⟨i,hi,rfl⟩:=hx m h
   have:=(he i hi).tm
   exact ⟨qez X (40 * i+40),by show bnI X (40 * i+40)<=_; unfold bnI; omega⟩
 . rw [hl] at h
   obtain ⟨i,hi,rfl⟩:=hx m h
   have h1:=(he i hi).lo
   have h2:=(he i hi).hi
   exact ⟨by show bnI X 16 - bnI X 0<=bnI X (40 * i+40); omega,by show bnI X (40 * i+40)<=_; omega⟩
 . rw [hl,qq1]; unfold bnI; omega
theorem j4e (t:Int) (Y:Nat->BitVec 8):keyY t Y=keyM (t,dgOf Y):=by
 have e:mapN (fun j=>Value.int .u8 ((Y j).toNat:Int)) (qba 32 0)=(List.range 32).map fun j=>Value.int .u8 (((dgOf Y).at j).toNat:Int):=by
  rw [qla,qcb,← List.range_eq_range']
  refine List.map_congr_left fun j hj => ?_
  rw [qhd _ (List.mem_range.1 hj)]
 unfold keyY keyM mkC
 rw [e]
theorem jch (t:Int) (Y:Nat->BitVec 8):mkY t Y=(t,dgOf Y):=by
 unfold mkY
 refine Prod.ext rfl (qqj fun j hj => ?_)
 show (dgOf _).at j=(dgOf Y).at j
 rw [qhd _ hj,qhd _ hj,qla,qcb,← List.range_eq_range']
 unfold qya
 simp [hj]
theorem qgt {n:Nat} (h:40<=n) (h':n<=1152921504606846976):rqN n=n - 40:=by
 unfold rqN
 rw [BitVec.toNat_ofInt]
 omega
end
noncomputable section
open Go.Sim
open Go.Proofs
variable {α:Type}
set_option maxRecDepth 1000000
def qtf (X:Nat->BitVec 8):Nat->Int
 | 0=>0
 | i+1=>tmI X (40 * i+40)
def q7d (X:Nat->BitVec 8):Nat->Nat->BitVec 8
 | 0=>fun _=>0#8
 | i+1=>dgI X (40 * i+40+8)
def ldKx (X:Nat->BitVec 8) (n m i:Nat):Cut:=ldC X n (40 * i) (n - 40 - 40 * i) (m - 40 - 40 * i) (esX X i) i (bnI X 0) (bnI X 8) (bnI X 16) (bnI X 24 - 1) (qtf X i) (q7d X i)
def errA (e:Int):SV:=.tuple [.nilPtr,.int .i64 (.lit e)]
def ldDD (X:Nat->BitVec 8) (v:SV) (H:List SO):Prop :=
 (qlh X/\v=.tuple [.ptr ⟨4,.lit 0⟩,.int .i64 (.lit 0)]/\H[3]? = some (.obj (.amap kMk uMk (esX X (cntI X)) (cntI X)))/\H[4]? = some (chO 3 (bnI X 0) (bnI X 8) (bnI X 16) (bnI X 24 - 1)))\/(¬ qlh X/\v=errA 6)
theorem q37 {X:Nat->BitVec 8} {i:Nat} (h:beN X (40 * i+40) 8<=1099511627776):ldK X (40 * i)=keyM (mkX X i):=by
 unfold ldK
 rw [j4e,qtj (by omega)]
 rfl
theorem qqv {X:Nat->BitVec 8} {n m i:Nat} (h:beN X (40 * i+40) 8<=1099511627776) :
  ldC X n (40 * i+40) (n - 40 - 40 * i - 40) (m - 40 - 40 * i - 40) (insK (esX X i) i (ldK X (40 * i)) (.agg #[])) (i+1) (bnI X 0) (bnI X 8) (bnI X 16) (bnI X 24 - 1) (tmI X (40 * i+40)) (dgI X (40 * i+40+8))=ldKx X n m (i+1):=by
 unfold ldKx
 rw [q37 h,← qcz,show n - 40 - 40 * (i+1)=n - 40 - 40 * i - 40 by omega,show m - 40 - 40 * (i+1)=m - 40 - 40 * i - 40 by omega,show 40 * (i+1)=40 * i+40 by omega]
 rfl
theorem mkYx {X:Nat->BitVec 8} {i:Nat} (h:beN X (40 * i+40) 8<=1099511627776):mkY (tmI X (40 * i+40)) (dgI X (40 * i+40+8))=mkX X i:=by
 rw [jch,qtj (by omega)]; rfl
theorem j5e (f:Nat->Nat):ImpE f (some (.ent zMk)) (.ent (jwc 0 fun _=>0#8)):=by
 refine ⟨_,rfl,fun γ vs hv => ?_⟩
 exact hv
section
variable {X:Nat->BitVec 8} {n m:Nat}
theorem qr1 (hn:40<=n) (hz:n<=1152921504606846976) (hh:HeadOK X) (hc:cntI X * 40=n - 40):Runs cfgLd 8 [.slice ⟨0,.lit 0⟩ (.sym n) (.sym m)] [rowF X n] (ldDD X):=by
 have hsk:=hh.sk
 have hlo:=hh.lo
 have hhi:=hh.hi
 have hcn:=hh.cn
 have hcl:=hh.cl
 have hfe:=hh.fe
 have t0:tmI X 0=bnI X 0:=qtj (by omega)
 have t8:tmI X 8=bnI X 8:=qtj (by omega)
 have t16:tmI X 16=bnI X 16:=qtj (by omega)
 have t24:tmI X 24=bnI X 24:=qtj (by omega)
 have hb:∀ o,bnI X o=((beN X o 8:Nat):Int):=fun o=>rfl
 have hI:=q6c X
 refine qmf qp1 (ldKx X n m) (fun i=>i<=cntI X/\∀ j,j<i->EntOK X j) (fun i=>cntI X - i) (fun g nm hg=>by cases hg) ?_ fun i hi J => ?_
 . have hr:=fun z=>lh_ok X n m z (fun _=>0#8)
   rw [t0,t8,t16,t24] at hr
   refine qgg (ms:=[(0,7,.tail ⟨0,.lit 0⟩ (.lit 40) (.sym (n - 40)) (.sym (m - 40)))]) (es:=[(3,.ent (.obj (.map [] 0))),(5,.ent zMk)]) (ds:=ldG) (names:=ldN) (N:=6) (M:=ldC X n 0 (n - 40) (m - 40) [] 0 (bnI X 0) (bnI X 8) (bnI X 16) (bnI X 24 - 1) 0 fun _=>0#8) (some (1,3)) 20000 0 ⟨Nat.zero_le _,fun j hj=>by omega⟩ hr (ld_n X n _ _ _ _ _ _ _ _ _ _ _ _ _ _ _ _ _ _) (fun q hq p v hp hv => ?_) (fun e he E0 hE0 => ?_) ?_
   . obtain rfl:=List.mem_singleton.1 hq
     exact qnf (jbh X n (fun _=>0#8) 0 (n - 40) (m - 40) [] 0 (bnI X 0) (bnI X 8) (bnI X 16) (bnI X 24 - 1) 0) hp hv fun _ _ h=>h
   . rcases List.mem_cons.1 he with rfl | he
     . cases hE0
       exact ⟨_,rfl,fun β x h=>SObj.amap_den.2 ⟨fun e he=>(by cases he),by cases h; rfl⟩⟩
     . obtain rfl:=List.mem_singleton.1 he
       cases hE0
       exact j5e _
   . have e1:rqN n / 40 % 18446744073709551616=cntI X:=by rw [qgt hn hz]; omega
     have e2:q2c .u64 (Int.mul (bnI X 32) 40)=((rqN n:Nat):Int):=by
      rw [qgt hn hz,qod]
      have:Int.mul (bnI X 32) 40=((n - 40:Nat):Int):=by
       show bnI X 32 * 40=_
       rw [hb]; unfold cntI at hc; omega
      rw [this]
      exact qqt .u64 _ (by show n - 40<=18446744073709551615; omega)
     refine all_cons (by rw [decide_eq_true (by omega)]; rfl) (all_cons (by omega) (all_cons hI (all_cons ⟨by omega,by omega⟩ (all_cons ⟨by omega,by omega⟩ (all_cons ?_ (all_cons ?_ (all_cons hI (all_cons ⟨by omega,by omega⟩ (all_cons (by omega) (all_cons hI (all_cons ⟨by omega,by omega⟩ (all_cons (by omega) (all_cons hI (all_cons ⟨by omega,by omega⟩ (all_cons (by omega) (all_cons hI (all_cons ⟨by omega,by omega⟩
      (all_cons ?_ (all_cons ?_ (all_cons ?_ (all_cons ?_ (all_cons ?_ (all_cons ?_ (all_cons ?_ (all_cons hn qca)))))))))))))))))))))))))
     . rw [e1,decide_eq_true (by rw [hb]; unfold cntI; omega)]; rfl
     . rw [e2]; simp
     . rw [decide_eq_true (by rw [hb]; omega)]; rfl
     . exact decide_eq_true (by rw [hb]; omega)
     . rw [decide_eq_true (by rw [hb]; omega)]; rfl
     . rw [decide_eq_true (by rw [hb,hb]; unfold cntI at hcn; omega)]; rfl
     . rw [decide_eq_true (by rw [hb]; omega)]; rfl
     . rw [decide_eq_true (by rw [hb]; omega)]; rfl
     . rw [hb]; exact ⟨by omega,by omega⟩
 show q6d cfgLd _ (ldKx X n m) _ _ ((ldC X n (40 * i) (n - 40 - 40 * i) (m - 40 - 40 * i) (esX X i) i (bnI X 0) (bnI X 8) (bnI X 16) (bnI X 24 - 1) (qtf X i) (q7d X i)).fill J)
 obtain ⟨hi,he⟩:=hi
 by_cases c:i<cntI X
 . have hno:¬ EntOK X i->∀ v H,v=errA 6->ldDD X v H:=fun h v H hv=>.inr ⟨fun h'=>h (h' i c),hv⟩
   have hlen:40<=n - 40 - 40 * i:=by omega
   have hnn:40 * i+40+40<=n:=by omega
   have q0:∀ {r:List Prop},(∀ p∈r,p)->∀ p∈ldQ X n (40 * i) (n - 40 - 40 * i) r,p:=fun {r} hr=>all_cons (decide_eq_true (by omega)) (all_cons hI (all_cons ⟨by omega,by omega⟩ hr))
   by_cases h1:beN X (40 * i+40) 8<=1099511627776
   . have ht:tmI X (40 * i+40)=bnI X (40 * i+40):=qtj (by omega)
     have q1:∀ {r:List Prop},(∀ p∈r,p)->∀ p∈ldQ1 X n (40 * i) (n - 40 - 40 * i) (bnI X 0) r,p:=fun {r} hr=>q0 (all_cons (by rw [decide_eq_true (by omega)]; rfl) (all_cons (by omega) (all_cons hlen (all_cons (by omega) (all_cons (by rw [ht,hb,hb]; exact ⟨by omega,by omega⟩) hr)))))
     by_cases h2:bnI X 16<=bnI X (40 * i+40)+bnI X 0
     . have q2:∀ {r:List Prop},(∀ p∈r,p)->∀ p∈ldQ2 X n (40 * i) (n - 40 - 40 * i) (bnI X 0) (bnI X 16) r,p:=fun {r} hr=>q1 (all_cons (decide_eq_true (by rw [ht]; exact h2)) (all_cons (by rw [hb,hb]; exact ⟨by omega,by omega⟩) hr))
       by_cases h3:bnI X (40 * i+40)<=bnI X 16+bnI X 0
       . have q3:∀ {r:List Prop},(∀ p∈r,p)->∀ p∈ldQ3 X n (40 * i) (n - 40 - 40 * i) (bnI X 0) (bnI X 16) r,p:=fun {r} hr=>q2 (all_cons (by rw [ht,decide_eq_true h3]; rfl) hr)
         have hmu:cntI X - (i+1)<cntI X - i:=by omega
         cases i with
         | zero =>
           refine qgc (names:=ldN) (N:=7) (ds:=[true,false,true,false,true,true,true,true,true,false]) (M:=ldC X n (40 * 0) (n - 40 - 40 * 0) (m - 40 - 40 * 0) (esX X 0) 0 (bnI X 0) (bnI X 8) (bnI X 16) (bnI X 24 - 1) (qtf X 0) (q7d X 0)) (some (1,3)) 20000 1 ⟨⟨c,fun j hj => ?_⟩,hmu⟩
            (fun z=>by rw [← qqv h1]; exact j2a X n (40 * 0) (n - 40 - 40 * 0) (m - 40 - 40 * 0) (esX X 0) 0 (bnI X 0) (bnI X 8) (bnI X 16) (bnI X 24 - 1) (qtf X 0) (q7d X 0) J z) (ld_n X n _ _ _ _ _ _ _ _ _ _ _ _ _ _ _ _ _ _) (q3 (q9k (quc rfl 5) (all_cons rfl (all_cons (by omega) (all_cons hlen qca)))))
           obtain rfl:j=0:=by omega
           exact ⟨h1,h2,h3,fun k hk=>by omega⟩
         | succ k =>
           have hk1:=(he k (by omega)).tm
           have e0:(((esX X (k+1)).length:Int) == 0)=false:=by rw [j3e]; simp; omega
           have ey:mkY (qtf X (k+1)) (q7d X (k+1))=mkX X k:=mkYx hk1
           by_cases h4:mkLt (mkX X k) (mkX X (k+1))
           . have hE:EntOK X (k+1):=⟨h1,h2,h3,fun k' hk'=>by cases hk'; exact h4⟩
             have hE':∀ j,j<k+1+1->EntOK X j:=fun j hj=>by
              by_cases c2:j<k+1
              . exact he j c2
              . obtain rfl:j=k+1:=by omega
                exact hE
             refine qgc (names:=ldN) (N:=7) (ds:=[true,false,true,false,false,false,false]) (M:=ldC X n (40 * (k+1)) (n - 40 - 40 * (k+1)) (m - 40 - 40 * (k+1)) (esX X (k+1)) (k+1) (bnI X 0) (bnI X 8) (bnI X 16) (bnI X 24 - 1) (qtf X (k+1)) (q7d X (k+1))) (some (1,3)) 20000 (k+1+1) ⟨⟨c,hE'⟩,hmu⟩
              (fun z=>by rw [← qqv h1]; exact j2e X n (40 * (k+1)) (n - 40 - 40 * (k+1)) (m - 40 - 40 * (k+1)) (esX X (k+1)) (k+1) (bnI X 0) (bnI X 8) (bnI X 16) (bnI X 24 - 1) (qtf X (k+1)) (q7d X (k+1)) J z) (ld_n X n _ _ _ _ _ _ _ _ _ _ _ _ _ _ _ _ _ _) (q3 (all_cons e0 (all_cons ?_ (all_cons ?_ (all_cons (by omega) (all_cons hlen qca))))))
             . rw [ey,mkYx h1,decide_eq_true (cfM_neg.2 h4)]; rfl
             . rw [q37 h1,(qdz he).hasB,qfb (jxc hE')]
           . refine qdd (js:=[]) (names:=ldN) (ds:=[true,false,true,false,false,true]) (M:=ldC X n (40 * (k+1)) (n - 40 - 40 * (k+1)) (m - 40 - 40 * (k+1)) (esX X (k+1)) (k+1) (bnI X 0) (bnI X 8) (bnI X 16) (bnI X 24 - 1) (qtf X (k+1)) (q7d X (k+1))) none 20000
              (fun z=>jah X n (40 * (k+1)) (n - 40 - 40 * (k+1)) (m - 40 - 40 * (k+1)) (esX X (k+1)) (k+1) (bnI X 0) (bnI X 8) (bnI X 16) (bnI X 24 - 1) (qtf X (k+1)) (q7d X (k+1)) J z) (q3 (all_cons e0 (all_cons ?_ qca))) fun H _=>hno (fun h=>h4 (h.lt k rfl)) _ _ rfl
             rw [ey,mkYx h1,decide_eq_false fun h=>h4 (cfM_neg.1 h)]; rfl
       . exact qdd (js:=[]) (names:=ldN) (M:=ldC X n (40 * i) (n - 40 - 40 * i) (m - 40 - 40 * i) (esX X i) i (bnI X 0) (bnI X 8) (bnI X 16) (bnI X 24 - 1) (qtf X i) (q7d X i)) none 20000 (fun z=>j1e X n (40 * i) _ _ _ _ _ _ _ _ _ _ J z) (q2 (all_cons (by rw [ht,decide_eq_false h3]; rfl) qca)) fun H _=>hno (fun h=>h3 h.hi) _ _ rfl
     . exact qdd (js:=[]) (names:=ldN) (M:=ldC X n (40 * i) (n - 40 - 40 * i) (m - 40 - 40 * i) (esX X i) i (bnI X 0) (bnI X 8) (bnI X 16) (bnI X 24 - 1) (qtf X i) (q7d X i)) none 20000 (fun z=>j9g X n (40 * i) _ _ _ _ _ _ _ _ _ _ J z) (q1 (quc (decide_eq_false (by rw [ht]; exact h2)) 13)) fun H _=>hno (fun h=>h2 h.lo) _ _ rfl
   . exact qdd (js:=[]) (names:=ldN) (M:=ldC X n (40 * i) (n - 40 - 40 * i) (m - 40 - 40 * i) (esX X i) i (bnI X 0) (bnI X 8) (bnI X 16) (bnI X 24 - 1) (qtf X i) (q7d X i)) none 20000 (fun z=>ld_ov X n (40 * i) _ _ _ _ _ _ _ _ _ _ J z) (q0 (all_cons (by show (!decide _)=true; rw [decide_eq_false (by omega)]; rfl) qca)) fun H _=>hno (fun h=>h1 h.tm) _ _ rfl
 . obtain rfl:i=cntI X:=by omega
   refine qdd (js:=[3,4]) (names:=ldN) (M:=ldC X n (40 * cntI X) (n - 40 - 40 * cntI X) (m - 40 - 40 * cntI X) (esX X (cntI X)) (cntI X) (bnI X 0) (bnI X 8) (bnI X 16) (bnI X 24 - 1) (qtf X (cntI X)) (q7d X (cntI X))) none 20000 (fun z=>j8g X n _ _ _ _ _ _ _ _ _ _ _ J z) (all_cons (decide_eq_false (by omega)) qca) fun H hH=>.inl ⟨he,rfl,(List.cons.inj hH).1,(List.cons.inj (List.cons.inj hH).2).1⟩
end
def qfz (X:Nat->BitVec 8) (n:Nat):Prop:=n<40\/(n - 40) / 40<cntI X
def qht (X:Nat->BitVec 8) (n:Nat):Prop:=cntI X * 40≠n - 40
def loX (X:Nat->BitVec 8) (n base:Nat):R SumRes:=.fork (cB (qfz X n)) (.ok ⟨errA 4,[],[]⟩) (.fork (cB (qht X n)) (.ok ⟨errA 5,[],[]⟩) (.fork (cB (HeadOK X/\qlh X))
 (.ok ⟨.tuple [.ptr ⟨base,.lit 0⟩,.int .i64 (.lit 0)],[],[chO (base+1) (bnI X 0) (bnI X 8) (bnI X 16) (bnI X 24 - 1),.obj (.amap kMk uMk (esX X (cntI X)) (cntI X))]⟩) (.ok ⟨errA 6,[],[]⟩)))
def slZ (v:SV) (f:Nat->Nat->R α):R α:=match v with
 | .slice a l _=>boolC (is0 a.off) (f a.nm l.den) (.stuck 7911)
 | _=>.stuck 7910
theorem j6e {v:SV} {f:Nat->Nat->R α} {φ:α->Prop} (h:∀ nm n,(∀ β x,v.den β=some x->∃ m,(SV.slice ⟨nm,.lit 0⟩ (.sym n) (.sym m)).den β=some x)->(f nm n).Sat φ):(slZ v f).Sat φ:=by
 unfold slZ
 split
 . rename_i a l c
   refine qra fun h0=>h _ _ fun β x hx => ?_
   obtain ⟨m,_,hm,_⟩:=q9e hx
   refine ⟨m,?_⟩
   rw [q1q h0] at hm
   exact hm
 . trivial
def loSm:Summ:=fun args H base=>qye args fun v=>slZ v fun nm n=>qai (nth H nm) fun X k=>.need (n=k/\n<=1152921504606846976) (loX X n base)
theorem q6g {X:Nat->BitVec 8} {n m:Nat} {ds:List Bool} {ps:List Prop} {e:Int} (h:outO [] (ldT X n m none) ds=(ps,ldE e)) (hp:∀ p∈ps,p):Runs cfgLd 8 [.slice ⟨0,.lit 0⟩ (.sym n) (.sym m)] [rowF X n] fun v _=>v=errA e :=
 q5o qp1 (n:=20000) (qpc (t:=qka cfgLd 20000 8 [.slice ⟨0,.lit 0⟩ (.sym n) (.sym m)] [rowF X n]) h hp fun _ _=>rfl)
theorem j7e {X:Nat->BitVec 8} {n m:Nat} (hz:n<=1152921504606846976) {w:World} {β:Val} {H:List SO} {base:Nat} {vs:List Value} (hE:∀ e,Runs cfgLd 8 [.slice ⟨0,.lit 0⟩ (.sym n) (.sym m)] [rowF X n] (fun v _=>v=errA e)->SumSem Tryd.prog H β w base 8 vs ⟨errA e,[],[]⟩)
  (hG:∀ es c sk lm cl fe,Runs cfgLd 8 [.slice ⟨0,.lit 0⟩ (.sym n) (.sym m)] [rowF X n] (fun v H=>v=.tuple [.ptr ⟨4,.lit 0⟩,.int .i64 (.lit 0)]/\H[3]? = some (.obj (.amap kMk uMk es c))/\H[4]? = some (chO 3 sk lm cl fe)) ->
   SumSem Tryd.prog H β w base 8 vs ⟨.tuple [.ptr ⟨base,.lit 0⟩,.int .i64 (.lit 0)],[],[chO (base+1) sk lm cl fe,.obj (.amap kMk uMk es c)]⟩):(loX X n base).Sat (SumSem Tryd.prog H β w base 8 vs):=by
 have hb:∀ o,bnI X o=((beN X o 8:Nat):Int):=fun o=>rfl
 have hI:=q6c X
 by_cases hn:40<=n
 . have qA:∀ {r:List Prop},(∀ p∈r,p)->∀ p∈lhA X n r,p:=fun {r} hr=>all_cons (by rw [decide_eq_true (by omega)]; rfl) (all_cons (by omega) (all_cons hI (all_cons ⟨by omega,by omega⟩ (all_cons ⟨by omega,by omega⟩ hr))))
   have e1:rqN n / 40 % 18446744073709551616=(n - 40) / 40:=by rw [qgt hn hz]; omega
   refine ⟨fun h => ?_,fun h => ?_⟩
   . rcases cBi.1 h with h | h
     . omega
     . refine hE 4 (q6g (lh_2 X n m) (qA (all_cons ?_ qca)))
       rw [e1,decide_eq_false (by rw [hb]; unfold cntI at h; omega)]; rfl
   . have h:¬ (n - 40) / 40<cntI X:=fun h'=>cB_f h (.inr h')
     have qB:∀ {r:List Prop},(∀ p∈r,p)->∀ p∈lhB X n r,p:=fun {r} hr=>qA (all_cons (by rw [e1,decide_eq_true (by rw [hb]; unfold cntI at h; omega)]; rfl) hr)
     have e2:q2c .u64 (Int.mul (bnI X 32) 40)=((cntI X * 40:Nat):Int):=by
      rw [qod]
      have:Int.mul (bnI X 32) 40=((cntI X * 40:Nat):Int):=by
       show bnI X 32 * 40=_
       rw [hb]; unfold cntI; omega
      rw [this]
      exact qqt .u64 _ (by show cntI X * 40<=18446744073709551615; omega)
     have e3:((rqN n:Nat):Int)=((n - 40:Nat):Int):=by rw [qgt hn hz]
     refine ⟨fun h2 => ?_,fun h2 => ?_⟩
     . have h2:=cBi.1 h2
       unfold qht at h2
       refine hE 5 (q6g (lh_3 X n m) (qB (all_cons ?_ qca)))
       rw [e2,e3]
       have:(((cntI X * 40:Nat):Int) == ((n - 40:Nat):Int))=false:=by
        rw [beq_eq_false_iff_ne]; omega
       rw [this]; rfl
     . have h2:cntI X * 40=n - 40:=Decidable.of_not_not fun h'=>cB_f h2 h'
       have qC:∀ {r:List Prop},(∀ p∈r,p)->∀ p∈lhC X n r,p:=fun {r} hr=>qB (all_cons (by rw [e2,e3,h2]; simp) (all_cons hI (all_cons ⟨by omega,by omega⟩ (all_cons (by omega) (all_cons hI (all_cons ⟨by omega,by omega⟩ (all_cons (by omega) (all_cons hI (all_cons ⟨by omega,by omega⟩ (all_cons (by omega) (all_cons hI (all_cons ⟨by omega,by omega⟩ hr))))))))))))
       refine ⟨fun h3 => ?_,fun h3 => ?_⟩
       . obtain ⟨hh,he⟩:=cBi.1 h3
         refine hG _ _ _ _ _ _ (qyc (qr1 hn hz hh h2) fun v H hd => ?_)
         rcases hd with ⟨_,h4,h5,h6⟩ | ⟨h4,_⟩
         . exact ⟨h4,h5,h6⟩
         . exact absurd he h4
       . have h3:=cB_f h3
         by_cases a1:beN X 0 8<=1048576
         . have qD:∀ {r:List Prop},(∀ p∈r,p)->∀ p∈lhD X n r,p:=fun {r} hr=>qC (all_cons (by rw [decide_eq_true (by rw [hb]; omega)]; rfl) hr)
           by_cases a2:1<=beN X 8 8
           . have qE:∀ {r:List Prop},(∀ p∈r,p)->∀ p∈lhE X n r,p:=fun {r} hr=>qD (all_cons (decide_eq_true (by rw [hb]; omega)) hr)
             by_cases a3:beN X 8 8<=65536
             . have qF:∀ {r:List Prop},(∀ p∈r,p)->∀ p∈lhF X n r,p:=fun {r} hr=>qE (all_cons (by rw [decide_eq_true (by rw [hb]; omega)]; rfl) hr)
               by_cases a4:cntI X<=beN X 8 8
               . have qG:∀ {r:List Prop},(∀ p∈r,p)->∀ p∈lhG X n r,p:=fun {r} hr=>qF (all_cons (by rw [decide_eq_true (by rw [hb,hb]; unfold cntI at a4; omega)]; rfl) hr)
                 by_cases a5:beN X 16 8<=1099511627776
                 . have qH:∀ {r:List Prop},(∀ p∈r,p)->∀ p∈lhH X n r,p:=fun {r} hr=>qG (all_cons (by rw [decide_eq_true (by rw [hb]; omega)]; rfl) hr)
                   by_cases a6:beN X 24 8<=1099511627776+1048576+1
                   . refine hE 6 (qyc (qr1 hn hz ⟨a1,a2,a3,a4,a5,a6⟩ h2) fun v H hd => ?_)
                     rcases hd with ⟨he,_⟩ | ⟨_,h4⟩
                     . exact absurd ⟨⟨a1,a2,a3,a4,a5,a6⟩,he⟩ h3
                     . exact h4
                   . exact hE 6 (q6g (lh_9 X n m) (qH (all_cons (by rw [decide_eq_false (by rw [hb]; omega)]; rfl) qca)))
                 . exact hE 6 (q6g (lh_8 X n m) (qG (all_cons (by rw [decide_eq_false (by rw [hb]; omega)]; rfl) qca)))
               . exact hE 6 (q6g (lh_7 X n m) (qF (all_cons (by rw [decide_eq_false (by rw [hb,hb]; unfold cntI at a4; omega)]; rfl) qca)))
             . exact hE 6 (q6g (lh_6 X n m) (qE (all_cons (by rw [decide_eq_false (by rw [hb]; omega)]; rfl) qca)))
           . exact hE 6 (q6g (lh_5 X n m) (qD (quc (decide_eq_false (by rw [hb]; omega)) 3)))
         . exact hE 6 (q6g (lh_4 X n m) (qC (all_cons (by rw [decide_eq_false (by rw [hb]; omega)]; rfl) qca)))
 . refine ⟨fun _=>hE 4 (q6g (lh_1 X n m) (all_cons (by rw [decide_eq_false (by omega)]; rfl) qca)),fun h=>absurd (Or.inl (by omega)) (cB_f h)⟩
theorem loOK:qob Tryd.prog 8 loSm:=by
 intro glob O w0 β H w base args vs hH hG ha
 refine qic fun v hv=>j6e fun nm n hs=>qce fun X k hX => ?_
 rintro ⟨rfl,hz⟩
 rw [hv] at ha
 obtain ⟨x,xs,hx,hxs,rfl⟩:=denL_cons.1 ha
 rw [denL_nil] at hxs; subst hxs
 obtain ⟨m,hm⟩:=hs β x hx
 have hF:(Ifc.mk [nm] [rowF X n] [.slice ⟨0,.lit 0⟩ (.sym n) (.sym m)]).FitsQ H:=by
  refine Ifc.fitsQ (by simp) rfl ⟨⟨?_,fun _=>rfl⟩,trivial⟩
  obtain ⟨e,he,hq⟩:=hX (Ifc.big ⟨[nm],[rowF X n],[.slice ⟨0,.lit 0⟩ (.sym n) (.sym m)]⟩)
  rw [qda] at he
  exact ⟨e,he,hq⟩
 have hA:SV.denL β (SV.renL (Ifc.mk [nm] [rowF X n] [.slice ⟨0,.lit 0⟩ (.sym n) (.sym m)]).big [.slice ⟨0,.lit 0⟩ (.sym n) (.sym m)])=some [x]:=denL_cons.2 ⟨x,[],hm,rfl,rfl⟩
 refine j7e (m:=m) hz (fun e hr => ?_) fun es c sk lm cl fe hr => ?_
 . refine qhg (c:=cfgLd) hH ⟨[nm],[rowF X n],[.slice ⟨0,.lit 0⟩ (.sym n) (.sym m)]⟩ (by intro g j hg; cases hg) hA hF [] (by simp) (by simp) (qyc hr fun v H2 h => ?_)
   subst h
   exact ⟨.refl _,rfl,trivial,trivial⟩
 . refine qhg (c:=cfgLd) hH ⟨[nm],[rowF X n],[.slice ⟨0,.lit 0⟩ (.sym n) (.sym m)]⟩ (by intro g j hg; cases hg) hA hF [4,3] (by simp) (by simp) (qyc hr fun v H2 h => ?_)
   obtain ⟨rfl,h3,h4⟩:=h
   exact ⟨.refl _,rfl,trivial,⟨.inl ⟨_,_,_,_,h4,rfl,.refl _,rfl⟩,.inr ⟨_,_,h3,rfl,fun _ _ h=>h,rfl⟩,trivial⟩⟩
end
noncomputable section
open Go.Sim
open Go.Proofs
variable {α:Type}
set_option maxRecDepth 1000000
def dgQ (f:(Nat->BitVec 8)->Nat->Nat->BitVec 8):Cfg:=cfgG q4c (qjc [(38,qu4 (tabF f) 1099511627776)])
theorem dgQOK:CfgOK (dgQ shaG):=qrd (allS (by rw [jxe]; exact jsc) (by simp))
def by1 (x:BitVec 8):Nat->BitVec 8:=fun i=>qya [x] (0+i)
theorem jdh (f:(Nat->BitVec 8)->Nat->Nat->BitVec 8) (x:BitVec 8):outO [] (qka (dgQ f) 20000 17 [.int .u8 (.b8 x)] (shaH [])) []=([0+1<=1/\1<=1099511627776],some (.agg (bx (tabF f (by1 x) 1)),[])):=by kernel_rfl
def u8V (v:SV):Option SI:=v.asInt none fun k n=>boolC (eqK k .u8) (some n) none
theorem j4a {v:SV} {n:SI} (h:u8V v=some n):v=.int .u8 n:=by
 cases v <;> first | (cases h; done) | skip
 rename_i k m
 cases k <;> first | (cases h; rfl) | (cases h; done)
def dgSm (F:(Nat->BitVec 8)->Nat->List (BitVec 8)):Summ:=fun args H _=>qye args fun v=>optC (u8V v) (.stuck 7996) fun n=>shaT H (optC (i8 n) (.stuck 7997) fun x=>.need (n.den=(x.toNat:Int)) (.ok ⟨.agg (bx (F (by1 x) 1)),[],[]⟩))
theorem dgOK:SumAt Tryd.prog q4c 17 (dgSm (tabF shaG)):=by
 intro O w0 β H w base args vs hH hG ha
 refine qic fun v hv=>qia fun n hn=>qzm fun hT=>qia fun x hx => ?_
 intro hd
 rw [hv,j4a hn] at ha
 refine qnj dgQOK 20000 hH (shaI [] [] [.int .u8 (.b8 x)]) (qgi hG) (qpa (q9a hd) qcd _ _ ha) (Ifc.fits (by simp [shaI]) rfl (qbk hT trivial)) [] (by simp) (by simp) (qpc (jdh shaG x) (all_cons ⟨Nat.le_refl _,by omega⟩ qca) fun H2 _=>q9s rfl rfl)
end
noncomputable section
open Go.Sim
open Go.Proofs
variable {α:Type}
set_option maxRecDepth 1000000
abbrev HashF:=(Nat->BitVec 8)->Nat->Nat->BitVec 8
def dgK (f:HashF) (b:BitVec 8):Dg:=dgOf (qya (tabF f (by1 b) 1))
section
variable (f:HashF) (es:List MapEntry) (c:Nat) (sk lm cl fe:Int) (W:Nat->Value) (n:Nat) (what t now:Int) (b:BitVec 8)
def doC (nm mm:Nat):ChD:=⟨nm,mm,.sym sk,.sym lm,.sym cl,.sym fe,es,c⟩
def xK:Mk:=(t,dgK f b)
def vvT:Bool:=cB (vTm t/\vTm now)
def pM (d:ChD):List MapEntry:=prM (d.e (xK f t b) now) (xK f t b) (d.esN now) d.c
def pC (d:ChD):Nat:=prC (d.e (xK f t b) now) d.c
def D0:ChD:=doC es c sk lm cl fe 4 5
end
end
noncomputable section
open Go.Sim
open Go.Proofs
variable {α:Type}
set_option maxRecDepth 1000000
theorem j8e (x:BitVec 64) (i:Nat):(be8 x i).toNat=x.toNat / 2 ^ (56 - 8 * i) % 256:=by
 unfold be8
 rw [BitVec.toNat_setWidth,BitVec.toNat_ushiftRight,Nat.shiftRight_eq_div_pow]
theorem qs1 {X:Nat->BitVec 8} {o:Nat} {x:BitVec 64} (h:∀ r,r<8->X (o+r)=be8 x r):∀ k,k<=8->beN X o k=x.toNat / 2 ^ (64 - 8 * k)
 | 0,_=>by
   have:=x.isLt
   rw [beN,Nat.div_eq_of_lt (by omega)]
 | k+1,hk=>by
   rw [beN,qs1 h k (by omega),h k (by omega),j8e]
   have e:(2:Nat) ^ (64 - 8 * k)=2 ^ (56 - 8 * k) * 256:=by
    rw [show 64 - 8 * k=(56 - 8 * k)+8 by omega,Nat.pow_add]
   rw [e,← Nat.div_div_eq_div_mul,show 64 - 8 * (k+1)=56 - 8 * k by omega]
   exact Nat.div_add_mod _ 256
theorem q47 {X:Nat->BitVec 8} {o:Nat} {v:Int} (h0:0<=v) (h1:v<9223372036854775808) (h:∀ r,r<8->X (o+r)=be8 (BitVec.ofInt 64 v) r):bnI X o=v:=by
 unfold bnI
 rw [qs1 h 8 (Nat.le_refl _),show 64 - 8 * 8=0 from rfl,Nat.pow_zero,Nat.div_one,BitVec.toNat_ofInt]
 omega
structure ImgAt (es:List MapEntry) (sk lm cl fe:Int) (X:Nat->BitVec 8):Prop where
 b0:bnI X 0=sk
 b8:bnI X 8=lm
 b16:bnI X 16=cl
 b24:bnI X 24=fe+1
 b32:bnI X 32=((lsM es).length:Int)
 mks:∀ i (h:i<(lsM es).length),mkX X i=(lsM es)[i]
section
variable {es:List MapEntry} {c:Nat} {sk lm cl fe:Int}
theorem qgz (h:ChW es c sk lm cl fe):ImgAt es sk lm cl fe (imX es sk lm cl fe):=by
 have hsk:=h.hsk
 have hlm:=h.hlm
 have hcl:=h.hcl
 have hfe:=h.hfe
 have hsz:=h.sz
 have hl:=h.len
 have n:∀ {i:Nat} {v:Int},i<5->(imL es sk lm cl fe).getD i 0=v->0<=v->v<9223372036854775808->bnI (imX es sk lm cl fe) (8 * i)=v:=fun {i v} hi hv h0 h1=>q47 h0 h1 fun r hr=>by
  unfold imX
  rw [qyy _ _ hi hr,hv]
 unfold vTm at hcl
 refine ⟨n (i:=0) (by omega) rfl (by omega) (by omega),n (i:=1) (by omega) rfl (by omega) (by omega),n (i:=2) (by omega) rfl (by omega) (by omega),n (i:=3) (by omega) rfl (by omega) (by omega),?_,fun i hi => ?_⟩
 . rw [← hl]
   exact n (i:=4) (v:=(es.length:Int)) (by omega) rfl (by omega) (by omega)
 . have ht:=h.tm _ (List.getElem_mem hi)
   unfold vTm at ht
   refine Prod.ext ?_ (qqj fun j hj => ?_)
   . show bnI (imX es sk lm cl fe) (40 * i+40)=_
     refine q47 (by omega) (by omega) fun r hr => ?_
     rw [show 40 * i+40+r=40+40 * i+r by omega]
     exact qf1 _ hi hr
   . show (dgOf _).at j=_
     rw [qhd _ hj,show 40 * i+40+8+j=40+40 * i+(8+j) by omega]
     exact qg1 _ hi hj
theorem ImgAt.cnt {X:Nat->BitVec 8} (h:ImgAt es sk lm cl fe X):cntI X=(lsM es).length:=by
 have:=h.b32
 unfold bnI at this
 unfold cntI
 omega
theorem ImgAt.head {X:Nat->BitVec 8} (h:ImgAt es sk lm cl fe X) (hw:ChW es c sk lm cl fe):HeadOK X:=by
 have h0:=h.b0
 have h8:=h.b8
 have h16:=h.b16
 have h24:=h.b24
 have hc:=h.cnt
 have hsk:=hw.hsk
 have hlm:=hw.hlm
 have hcl:=hw.hcl
 have hfe:=hw.hfe
 have hsz:=hw.sz
 unfold vTm at hcl
 unfold bnI at h0 h8 h16 h24
 exact ⟨by omega,by omega,by omega,by omega,by omega,by omega⟩
theorem ImgAt.ents {X:Nat->BitVec 8} (h:ImgAt es sk lm cl fe X) (hw:ChW es c sk lm cl fe):qlh X:=fun i hi=>by
 rw [h.cnt] at hi
 have hm:=h.mks i hi
 have hb:bnI X (40 * i+40)=(lsM es)[i].1:=congrArg Prod.fst hm
 have ht:=hw.tm _ (List.getElem_mem hi)
 have hn:=hw.nr _ (List.getElem_mem hi)
 unfold vTm at ht
 refine ⟨?_,by rw [h.b16,h.b0,hb]; omega,by rw [h.b16,h.b0,hb]; omega,fun k hk => ?_⟩
 . unfold bnI at hb; omega
 . subst hk
   rw [hm,h.mks k (by omega)]
   exact List.pairwise_iff_getElem.1 hw.ok.so k (k+1) _ _ (by omega)
theorem ImgAt.list {X:Nat->BitVec 8} (h:ImgAt es sk lm cl fe X):lkX X (cntI X)=lsM es:=by
 rw [h.cnt]
 refine List.ext_getElem (by rw [qq1]) fun i h1 h2 => ?_
 rw [← h.mks i h2]
 simp [lkX]
theorem j5a (hw:ChW es c sk lm cl fe):ChW (esX (imX es sk lm cl fe) (cntI (imX es sk lm cl fe))) (cntI (imX es sk lm cl fe)) sk lm cl fe/\lsM (esX (imX es sk lm cl fe) (cntI (imX es sk lm cl fe)))=lsM es:=by
 have h:=qgz hw
 obtain ⟨h1,h2⟩:=img_w (h.head hw) (h.ents hw)
 rw [h.b0,h.b8,h.b16,h.b24,show fe+1 - 1=fe by omega] at h1
 exact ⟨h1,h2.trans h.list⟩
theorem j6a (hw:ChW es c sk lm cl fe):¬ qfz (imX es sk lm cl fe) (40+40 * es.length)/\¬ qht (imX es sk lm cl fe) (40+40 * es.length)/\HeadOK (imX es sk lm cl fe)/\qlh (imX es sk lm cl fe):=by
 have h:=qgz hw
 have hc:=h.cnt
 have hl:=hw.len
 refine ⟨?_,?_,h.head hw,h.ents hw⟩
 . rintro (h' | h')
   . omega
   . omega
 . unfold qht
   omega
end
end
noncomputable section
open Go.Sim
open Go.Proofs
variable {α:Type}
set_option maxRecDepth 1000000
section
variable {f:HashF} {es:List MapEntry} {c:Nat} {sk lm cl fe t now:Int} {b:BitVec 8}
theorem jeh (hw:ChW es c sk lm cl fe) (hv:vTm t/\vTm now):ChW (pM f t now b (D0 es c sk lm cl fe)) (pC f t now b (D0 es c sk lm cl fe)) sk lm (clk now cl) fe /\
  lsM (pM f t now b (D0 es c sk lm cl fe))=prL ((D0 es c sk lm cl fe).e (xK f t b) now) (xK f t b) ((D0 es c sk lm cl fe).u now):=by
 have hu:=hw.use hv.2
 unfold pM pC
 generalize hE:(D0 es c sk lm cl fe).e (xK f t b) now=e
 have hk:hasK (esN es sk cl now) (keyM (xK f t b))=cB (xK f t b∈lsM (esN es sk cl now)):=hu.ok.hasB _
 have same:e≠0->ChW (prM e (xK f t b) (esN es sk cl now) c) (prC e c) sk lm (clk now cl) fe/\lsM (prM e (xK f t b) (esN es sk cl now) c)=prL e (xK f t b) (lsM (esN es sk cl now)):=fun h=>by
  have hz:isZ e=false:=by
   unfold isZ
   cases h':eqI e 0 with
   | false=>rfl
   | true=>exact absurd (by rcases e with (_ | _) | _ <;> first | rfl | cases h') h
  unfold prM prC prL
  rw [hz]
  exact ⟨hu,rfl⟩
 show ChW (prM e (xK f t b) (esN es sk cl now) c) (prC e c) sk lm (clk now cl) fe/\lsM (prM e (xK f t b) (esN es sk cl now) c)=prL e (xK f t b) (lsM (esN es sk cl now))
 have hE:prE sk lm (clk now cl) fe (xK f t b) (lsM (esN es sk cl now))=e:=hE
 rcases qho sk lm (clk now cl) fe (xK f t b) (lsM (esN es sk cl now)) with ⟨_,h⟩ | ⟨_,_,h⟩ | ⟨_,_,_,h⟩ | ⟨_,_,_,_,h⟩ | ⟨h1,h2,h3,h4,h⟩
 . exact same (by rw [← hE,h]; omega)
 . exact same (by rw [← hE,h]; omega)
 . exact same (by rw [← hE,h]; omega)
 . exact same (by rw [← hE,h]; omega)
 . rw [hE] at h
   subst h
   have hn:hasK (esN es sk cl now) (keyM (xK f t b))=false:=by rw [hk]; exact qfb h3
   have hl:=hu.len
   exact ⟨hu.pres hn hv.1 (by omega) (by omega) (by omega),qe1 hu.ok hn⟩
end
end
noncomputable section
open Go.Sim
open Go.Proofs
variable {α:Type}
set_option maxRecDepth 1000000
section
variable (f:HashF) (d:ChD) (w t now:Int) (b:BitVec 8)
end
section
variable (d:ChD) (D:RfD) (w t now:Int) (b:BitVec 8)
end
section
variable {d:ChD} {D:RfD} {w t now:Int} {b:BitVec 8} {H:List SO}
end
end
noncomputable section
open Go.Sim
open Go.Proofs
variable {α:Type}
set_option maxRecDepth 1000000
structure DoI (I:Ifc) (d:ChD):Prop where
 own:q7c I.ents 0=[4,5]
 b4:I.big 4=d.nm
 b5:I.big 5=d.mm
 k4:I.known 4=true
 k5:I.known 5=true
 len:I.names.length<=7
section
variable {H:List SO} {O:Nat->Prop} {w0 wd:World} {β:Val} {base:Nat} {vs:List Value} {d:ChD} {I:Ifc} {ds:List Bool} {ps:List Prop} {v v':SV} {k fe:Int} {es:List MapEntry} {c:Nat}
end
end
noncomputable section
open Go.Sim
open Go.Proofs
variable {α:Type}
set_option maxRecDepth 1000000
section
variable {f:HashF} {es:List MapEntry} {c:Nat} {sk lm cl fe t now:Int} {b:BitVec 8} {D:RfD}
end
end
noncomputable section
open Go.Sim
open Go.Proofs
variable {α:Type}
def jfh (v:SV) (f:Nat->List Nat):List Nat:=match v with | .map n=>f n | _=>[]
def nmC (args:List SV) (H:List SO):List Nat :=
 List.rec (motive:=fun _=>List Nat) [] (fun a _ _=>a.asPtr [] fun a=>optC (q5d (nth H a.nm)) [] fun cs=>optC (nth cs 4) [] fun m=>jfh m fun m=>[a.nm,m]) args
def cfgP:Cfg:=qvh (qjc [])
theorem jgh:CfgOK cfgP:=qrd (by simp)
theorem SumAt.any {P:Program} {f:FuncId} {s:Summ} (h:SumAt P (fun _=>none) f s) (glob:Nat->Option Nat):SumAt P glob f s:=fun O w0 β H w base args vs hH _ ha=>h O w0 β H w base args vs hH (.none β) ha
def runP (n:Nat) (f:FuncId):Summ:=qqy cfgP n f [] nmC
theorem qt1 (n:Nat) (f:FuncId) (glob:Nat->Option Nat):SumAt Tryd.prog glob f (runP n f):=SumAt.any (q56 jgh n f [] nmC fun _ _ h=>by cases h) glob
def qw4:Cfg:=cfgG q4c (qjc [(44,shaS),(38,jtc),(16,runP 2000 16),(15,runP 2000 15)])
theorem j9e:CfgOK qw4:=qrd (allS shaOK (allS j5g (allS (qt1 _ _ _) (allS (qt1 _ _ _) (by simp)))))
end
end Go.Proofs.YthkgcljngalafaaDoor.Aes
