/-
  Texts behind one another: the symbolic simulator and what it is told of the program.
-/
import Derived.Test.YthkgcljngalafaaDoorPq6
import Derived.WideShapes
import Derived.ChangeShapes
import Derived.ChangeSlices
import Derived.Deep.Strs
import Derived.Test.YthkgcljngalafaaDoorPq16
import Derived.Deep.Slices
import Derived.Test.YthkgcljngalafaaDoorZqLop1
import Derived.Test.YthkgcljngalafaaDoorZqSha3
import Derived.Test.YthkgcljngalafaaDoorRows
import Derived.Lib.LaidPrint
import Derived.Lib.LaidTab
import Derived.MakeChecks
import Derived.Test.YthkgcljngalafaaDoorPq9
namespace Go.Proofs.YthkgcljngalafaaDoor.Aes
noncomputable section
open Go.Sim Go.WideShapes Go.ChangeShapes
section
variable {H:Type} {enc:TypeId × Value->H} {P:Program} {w:World} {r:Reach} {b0 base:Nat} {held:Bool}
theorem q9r {ti:TypeId} {n:Nat} {c:Value} {y:DataW H × List MemPlace} (hi:P.underlying ti=some (.int .i64)) (k:DataW.trod enc P w base (fun _=>true) held n ti [c]=some y):∃ z,c=.int .i64 z:=by
 obtain ⟨z,e,_,_⟩:=DataW.trod_int hi k
 exact ⟨z,by simpa using e⟩
end
end
noncomputable section
open Go.Sim Go.WideShapes Go.ChangeShapes
open Go.Proofs
open Go.RowKit
variable {α:Type}
set_option maxRecDepth 1000000
theorem jza {P:Program} {w:World} {β:Val} {H:List SO} (h:HeapRel P (fun _=>False) w β H w) {x:Addr} {len cap M:Nat} {V:Nat->Value} (hs:x.spot=none) (hl:len<=cap)
  (hx:∀ i,i<M->w.cell? (x.add i)=some (V i)) :
  ∃ β',HeapRel P (fun _=>False) w β' (H++[.row (.raw V M)]) w/\β.le β'/\(slP H.length len cap).den β'=some (.slice (some x) len cap):=by
 have hsn:=h.snoc (Go.Sim.Loc.mk x.block x.off 0) (.row (.raw V M)) ?_ (fun ho=>by cases ho)
 . refine ⟨_,hsn.1,hsn.2,?_⟩
   simp only [slP,SV.den,SA.den,SC.den,Val.upd_same,Option.map_some,Option.bind_some,SN.den,Nat.add_zero,q0n]
   cases x; cases hs
   exact if_pos hl
 . refine ⟨_,(List.range M).map V,Val.upd_same ..,⟨by simp,fun i y hy => ?_⟩,fun i y hy => ?_⟩
   . rw [List.getElem?_map] at hy
     cases hi:(List.range M)[i]? with
     | none=>rw [hi] at hy; cases hy
     | some j =>
       rw [hi] at hy; cases hy
       obtain ⟨h1,h2⟩:=List.getElem?_eq_some_iff.1 hi
       rw [List.getElem_range] at h2
       subst h2; rfl
   . rw [List.getElem?_map] at hy
     cases hi:(List.range M)[i]? with
     | none=>rw [hi] at hy; cases hy
     | some j =>
       rw [hi] at hy; cases hy
       obtain ⟨h1,h2⟩:=List.getElem?_eq_some_iff.1 hi
       rw [List.getElem_range] at h2
       subst h2
       have hi:i<M:=by simpa using h1
       have hc:=hx i hi
       have e:(x.add i:Addr)=⟨x.block,x.off+i,none⟩:=by
        cases x; cases hs
        unfold Addr.add
        split
        . rename_i h0; rw [h0]; rfl
        . rfl
       rw [e] at hc
       refine ⟨?_,fun f=>f,hc⟩
       unfold World.cell? at hc
       show x.block<w.heap.size
       by_cases hb:x.block<w.heap.size
       . exact hb
       . have hn:w.heap[x.block]? = none:=Array.getElem?_eq_none (by omega)
         simp only [hn] at hc
         cases hc
def ActRow (w:World) (a:Option Addr) (len cap:Nat) (V:Nat->Value):Prop :=
 (a=none/\len=0/\cap=0)\/∃ x,a=some x/\x.spot=none/\len<=cap/\(∀ i,i<cap * 4->w.cell? (x.add i)=some (V i))/\q8k V cap
def actV (q:Nat->Int × Int × Int × BitVec 8) (j:Nat):Value:=if j % 4=0 then .int .i64 (q (j / 4)).1 else if j % 4=1 then .int .i64 (q (j / 4)).2.1 else if j % 4=2 then .int .i64 (q (j / 4)).2.2.1 else .int .u8 ((q (j / 4)).2.2.2.toNat:Int)
theorem q23 (q:Nat->Int × Int × Int × BitVec 8) (i:Nat):actV q (i * 4)=.int .i64 (q i).1/\actV q (i * 4+1)=.int .i64 (q i).2.1/\actV q (i * 4+2)=.int .i64 (q i).2.2.1/\actV q (i * 4+3)=.int .u8 ((q i).2.2.2.toNat:Int):=by
 unfold actV
 refine ⟨?_,?_,?_,?_⟩
 . rw [if_pos (by omega),show i * 4 / 4=i by omega]
 . rw [if_neg (by omega),if_pos (by omega),show (i * 4+1) / 4=i by omega]
 . rw [if_neg (by omega),if_neg (by omega),if_pos (by omega),show (i * 4+2) / 4=i by omega]
 . rw [if_neg (by omega),if_neg (by omega),if_neg (by omega),show (i * 4+3) / 4=i by omega]
theorem jti (q:Nat->Int × Int × Int × BitVec 8) (n:Nat):q8k (actV q) n:=fun i hi=>by
 obtain ⟨h0,h1,h2,h3⟩:=q23 q i
 exact ⟨⟨_,h0⟩,⟨_,h1⟩,⟨_,h2⟩,_,h3⟩
theorem jui {H:Type} {enc:TypeId × Value->H} {P:Program} {w:World} {base:Nat} {held:Bool} {ti:TypeId} {n:Nat} {c:Value} {y:DataW H × List MemPlace} (hi:P.underlying ti=some (.int .u8)) (k:DataW.trod enc P w base (fun _=>true) held n ti [c]=some y):∃ x:BitVec 8,c=.int .u8 (x.toNat:Int):=by
 obtain ⟨z,e,h1,h2⟩:=DataW.trod_int hi k
 have hn:(0:Int)<=z/\z<=255:=by
  simp [Lit.wf,IntKind.min,IntKind.max,IntKind.signed,IntKind.bits] at h1 h2
  omega
 refine ⟨BitVec.ofInt 8 z,?_⟩
 rw [BitVec.toNat_ofInt]
 have:c=.int .u8 z:=by simpa using e
 rw [this]
 congr 1
 omega
section
variable {H:Type} {enc:TypeId × Value->H} {P:Program} {w:World} {r:Reach} {b0 base:Nat} {held:Bool}
theorem cell_acts4 {ts te ti tx:TypeId} {f0 f1 f2 f3:Field} {n:Nat} {c:Value} {y:DataW H × List MemPlace} (hs:P.underlying ts=some (.slice te)) (he:P.underlying te=some (.struct #[f0,f1,f2,f3])) (h0:f0.type=ti/\f0.offset=0) (h1:f1.type=ti/\f1.offset=1) (h2:f2.type=ti/\f2.offset=2) (h3:f3.type=tx/\f3.offset=3)
  (hi:P.underlying ti=some (.int .i64)) (hx:P.underlying tx=some (.int .u8)) (ce:P.cellsOf te=4) (ci:P.cellsOf ti=1) (cx:P.cellsOf tx=1) (k:DataW.trod enc P w base (fun _=>true) held n ts [c]=some y) (hsp:∀ x l m,c=.slice (some x) l m->x.spot=none) :
  ∃ a len cap V,c=.slice a len cap/\ActRow w a len cap V:=by
 rcases Go.Deep.open_slice hs k with ⟨hc,_⟩ | ⟨x,l,m,q,n',D,Pl,hc,_,hl,_,hq,_,hcell⟩
 . obtain rfl:c=.slice none 0 0:=by simpa using hc
   exact ⟨none,0,0,fun _=>.bool true,rfl,.inl ⟨rfl,rfl,rfl⟩⟩
 . obtain rfl:c=.slice (some x) l m:=by simpa using hc
   rw [if_pos rfl] at hq
   subst hq
   have each:∀ i,i<q->∃ p:Int × Int × Int × BitVec 8,w.cell? (x.add (i * 4))=some (.int .i64 p.1)/\w.cell? (x.add (i * 4+1))=some (.int .i64 p.2.1)/\w.cell? (x.add (i * 4+2))=some (.int .i64 p.2.2.1)/\w.cell? (x.add (i * 4+3))=some (.int .u8 (p.2.2.2.toNat:Int)):=by
    intro i hiq
    obtain ⟨cs',g1,g2⟩:=hcell i hiq
    rw [ce] at g1
    obtain ⟨_,hlen,hcl⟩:=World.cells?_some g1
    obtain ⟨xs,k',_,_,_,hxl,hf⟩:=DataW.trod_struct he g2
    match xs,hxl,cs',hlen with
    | [y0,y1,y2,y3],_,[v0,v1,v2,v3],_ =>
      have k0:=hf 0 f0 rfl
      have k1:=hf 1 f1 rfl
      have k2:=hf 2 f2 rfl
      have k3:=hf 3 f3 rfl
      rw [h0.1,h0.2,ci] at k0
      rw [h1.1,h1.2,ci] at k1
      rw [h2.1,h2.2,ci] at k2
      rw [h3.1,h3.2,cx] at k3
      obtain ⟨z,rfl⟩:=q9r hi (show DataW.trod enc P w base (fun _=>true) held k' ti [v0]=some y0 from k0)
      obtain ⟨s,rfl⟩:=q9r hi (show DataW.trod enc P w base (fun _=>true) held k' ti [v1]=some y1 from k1)
      obtain ⟨t,rfl⟩:=q9r hi (show DataW.trod enc P w base (fun _=>true) held k' ti [v2]=some y2 from k2)
      obtain ⟨u,rfl⟩:=jui hx (show DataW.trod enc P w base (fun _=>true) held k' tx [v3]=some y3 from k3)
      have e0:=hcl 0 (by omega)
      have e1:=hcl 1 (by omega)
      have e2:=hcl 2 (by omega)
      have e3:=hcl 3 (by omega)
      rw [Go.Deep.add_add] at e0 e1 e2 e3
      exact ⟨(z,s,t,u),by simpa using e0,by simpa using e1,by simpa using e2,by simpa using e3⟩
   obtain ⟨p,hp⟩:=Go.Deep.choose_lt each
   refine ⟨some x,l,q,actV p,rfl,.inr ⟨x,rfl,hsp _ _ _ rfl,hl,fun j hj => ?_,jti p q⟩⟩
   obtain ⟨e0,e1,e2,e3⟩:=hp (j / 4) (by omega)
   obtain ⟨v0,v1,v2,v3⟩:=q23 p (j / 4)
   rcases (show j=j / 4 * 4\/j=j / 4 * 4+1\/j=j / 4 * 4+2\/j=j / 4 * 4+3 by omega) with c | c | c | c
   . rw [c,v0]; exact e0
   . rw [c,v1]; exact e1
   . rw [c,v2]; exact e2
   . rw [c,v3]; exact e3
end
end
noncomputable section
open Go.Sim
open Go.Proofs
open Go.RowKit (Below)
variable {α:Type}
set_option maxRecDepth 1000000
inductive LoS
 | a (s:PlS)
 | b (cl fe:Int) (l:List Mk) (j:Nat)
 | d (cl fe:Int) (l:List Mk) (j:Nat)
section
variable (sk lm:Int) (V:Nat->Value) (N n k:Nat) (many:Int)
def loKx:LoS->Cut
 | .a s=>loC shaG sk lm V N n k many s.mn s.es s.c s.cl s.fe s.l s.i
 | .b cl fe l j=>loB shaG sk lm V N n k many cl fe l 0 (rowM l) l.length j
 | .d cl fe l j=>loD shaG sk lm V N n k many cl fe l (rowM l) l.length j
def jsf:LoS->Prop
 | .a s=>s.fit sk lm n
 | .b _ _ l j=>j<=l.length/\l.length<=65536
 | .d _ _ l j=>j<=l.length/\l.length<=65536
def loMu:LoS->Nat
 | .a s=>3000000+(n - s.i)
 | .b _ _ l j=>200000+(l.length - j)
 | .d _ _ l j=>l.length - j
end
section
variable {sk lm:Int} {V:Nat->Value} {N n k:Nat} {many:Int}
def qru (sk lm:Int) (V:Nat->Value) (N n k:Nat) (many:Int) (a:LoS) (J:Junk):Prop:=q6b (q3d shaG) 5 (loKx sk lm V N n k many) (fun b=>jsf sk lm n b/\loMu n b<loMu n a) (fun v _=>v=.bool (.lit true)) ((loKx sk lm V N n k many a).fill J)
theorem qfe {a a':PlS} {J:Junk} {M:Cut} {names:List Nat} {ds:List Bool} {q:Nat} {ps:List Prop} (hV:q8k V n) (hN:n * 4<=N) (hi:a.i<n) (hf:a'.fit sk lm n) (hi':a'.i=a.i+1)
  (h:∀ z,mapN (fun o=>outL [] M names (lo1 shaG sk lm V N n k many a.mn a.es a.c a.cl a.fe a.l a.i J (some (1,3))) (true::app (dirQ 14 o) ds) z) (qka 15 0)=mapN (fun o=>(plX V N n a.i z o ps,seP names q (loKx sk lm V N n k many (.a a')))) (qka 15 0))
  (hn:boolC (qza 5 names M (loKx sk lm V N n k many (.a a'))) (allN qxa (loKx sk lm V N n k many (.a a')).heap) false=true) (hp:∀ p∈ps,p):qru sk lm V N n k many (.a a) J:=by
 refine qxr (js:=[]) (K:=fun _=>False) (M:=M) (names:=names) (some (1,3)) 20000 (fun z => ?_) (fun v es h=>h.elim)
 have ho:min (z 0 0 - 0) 14<15:=by omega
 refine ⟨_,_,_,qsg (h z) ho,j3l hV hN hi hp,?_⟩
 show SeenTurn _ _ _ _ _ _
 exact SeenTurn.of (C:=loKx sk lm V N n k many) (.a a') ⟨hf,by show 3000000+(n - a'.i)<3000000+(n - a.i); omega⟩ hn
theorem qzv {l:List Mk} {j:Nat} {q:List Prop} (hj:j<l.length) (hz:l.length<=65536) (hq:∀ p∈q,p):∀ p∈loQ l (rowM l) l.length j q,p:=by
 have e0:rowM l (0+j * 33+0)=.int .i64 l[j].1:=by rw [Nat.zero_add,Nat.add_zero]; exact (qud hj).1
 exact all_cons (decide_eq_true (by omega)) (all_cons ⟨by omega,by omega⟩ (all_cons (by omega) (all_cons (qdi hj) (all_cons (decide_eq_false (by omega)) (all_cons ⟨by omega,by omega⟩ (all_cons (by omega) (all_cons (by rw [e0]; exact fun _=>rfl) (all_cons (by simp) (all_cons ⟨by omega,by omega⟩ (all_cons (by omega) (all_cons (qu0 hj) (all_cons (by rw [qn3 hj]; rfl) (all_cons ⟨by omega,by omega⟩ hq)))))))))))))
theorem q33 {names:List Nat} {q:Nat} {l:List Mk} {cl fe:Int}:∀ e∈modD,∀ E0,(loKx sk lm V N n k many (.d cl fe l 0)).heap[e.1]? = some E0->ImpE (qpb names q) (some e.2) E0:=fun e he E0 hE0=>by
 obtain rfl:=List.mem_singleton.1 he
 cases hE0
 exact ⟨_,rfl,fun γ vs hv=>hv⟩
theorem lo_d {cl fe:Int} {l:List Mk} {j:Nat} {J:Junk} (hj:j<=l.length) (hz:l.length<=65536):qru sk lm V N n k many (.d cl fe l j) J:=by
 show q6b (q3d shaG) 5 (loKx sk lm V N n k many) _ _ ((loD shaG sk lm V N n k many cl fe l (rowM l) l.length j).fill J)
 by_cases h:j<l.length
 . exact q7b (ds:=[true,false,false,false]) (names:=nmD1) (N:=23) (M:=loD shaG sk lm V N n k many cl fe l (rowM l) l.length j) (some (2,0)) 20000 (.d cl fe l (j+1)) ⟨⟨h,hz⟩,by show l.length - (j+1)<l.length - j; omega⟩ (fun z=>jwd shaG sk lm V N n k many cl fe l (rowM l) l.length j J z)
    (qb7 shaG sk lm V N n k many cl fe l (rowM l) l.length (j+1) _ (.inl rfl) j) (qzv h hz (all_cons ⟨by omega,by omega⟩ qaa))
 . obtain rfl:j=l.length:=by omega
   exact qec (js:=[]) (names:=nmD1) (M:=loD shaG sk lm V N n k many cl fe l (rowM l) l.length l.length) none 20000 (fun z=>jri shaG sk lm V N n k many cl fe l (rowM l) l.length l.length J z) (all_cons (decide_eq_false (by omega)) (all_cons (by simp) qaa)) fun H _=>rfl
theorem lo_b {cl fe:Int} {l:List Mk} {j:Nat} {J:Junk} (hj:j<=l.length) (hz:l.length<=65536):qru sk lm V N n k many (.b cl fe l j) J:=by
 show q6b (q3d shaG) 5 (loKx sk lm V N n k many) _ _ ((loB shaG sk lm V N n k many cl fe l 0 (rowM l) l.length j).fill J)
 have hmu:loMu n (.d cl fe l 0)<loMu n (.b cl fe l j):=by show l.length - 0<200000+(l.length - j); omega
 have hT:∀ {names:List Nat} {q:Nat},∀ m∈[((0:Nat),(7:Nat),SV.int .i64 (.lit 0))],∀ p u,(loKx sk lm V N n k many (.d cl fe l 0)).frames[m.1]? = some p->p.tmps[m.2.1]? = some u->∃ w,u=some w/\m.2.2.Imp (w.ren (qpb names q)):=fun {names q} m hm p u hp hu=>by
  obtain rfl:=List.mem_singleton.1 hm
  exact q4c (jsi shaG sk lm V N n k many cl fe l (rowM l) l.length 0) hp hu (qna rfl)
 by_cases h:j<l.length
 . cases hm:decide (((j+1:Nat):Int)>=many) with
   | true =>
     exact q0e (ms:=[(0,7,.int .i64 (.lit 0))]) (es:=modD) (ds:=[true,false,false,false,true]) (names:=nmD2) (N:=23) (M:=loD shaG sk lm V N n k many cl fe l (rowM l) l.length 0) (some (2,0)) 20000 (.d cl fe l 0) ⟨⟨Nat.zero_le _,hz⟩,hmu⟩ (fun z=>j5l shaG sk lm V N n k many cl fe l (rowM l) l.length j J z)
      (qb7 shaG sk lm V N n k many cl fe l (rowM l) l.length 0 _ (.inr rfl) 0) hT q33 (qzv h hz (all_cons hm qaa))
   | false =>
     exact q7b (ds:=[true,false,false,false,false]) (names:=nmB) (N:=19) (M:=loB shaG sk lm V N n k many cl fe l 0 (rowM l) l.length j) (some (2,0)) 20000 (.b cl fe l (j+1)) ⟨⟨h,hz⟩,by show 200000+(l.length - (j+1))<200000+(l.length - j); omega⟩ (fun z=>jqi shaG sk lm V N n k many cl fe l (rowM l) l.length j J z)
      (lb_n shaG sk lm V N n k many cl fe l (rowM l) l.length (j+1) j) (qzv h hz (all_cons hm (all_cons ⟨by omega,by omega⟩ qaa)))
 . exact q0e (ms:=[(0,7,.int .i64 (.lit 0))]) (es:=modD) (ds:=[false]) (names:=nmD1) (N:=21) (M:=loD shaG sk lm V N n k many cl fe l (rowM l) l.length 0) (some (2,0)) 20000 (.d cl fe l 0) ⟨⟨Nat.zero_le _,hz⟩,hmu⟩ (fun z=>j6l shaG sk lm V N n k many cl fe l (rowM l) l.length j J z)
    (qb7 shaG sk lm V N n k many cl fe l (rowM l) l.length 0 _ (.inl rfl) 0) hT q33 (all_cons (decide_eq_false (by omega)) qaa)
theorem lo_a (hV:q8k V n) (hN:n * 4<=N) (hz:n<=20) {a:PlS} {J:Junk} (ha:a.fit sk lm n):qru sk lm V N n k many (.a a) J:=by
 obtain ⟨mn,es,c,cl,fe,l,i⟩:=a
 obtain ⟨hw,hnil,hls,hle⟩:=ha
 have hw:ChW es c sk lm cl fe:=hw
 have hnil:mn=true->lsM es=[]:=hnil
 have hls:mn=false->lsM es=l:=hls
 have hle:i<=n:=hle
 by_cases hi:i<n
 . have hnx:nxI i:=⟨by omega,by omega⟩
   by_cases h6:0<=aW V i/\aW V i<=6
   . have c6:in06 V i true:=qta h6
     cases hv:oV (aW V i) (aT V i) (aN V i) with
     | true =>
       obtain ⟨hw2,hl2⟩:=op_w (f:=shaG) (d:=plD sk lm es c cl fe) (b:=aB V i) hw h6 hv
       cases hem:(oL shaG (plD sk lm es c cl fe) (aW V i) (aT V i) (aN V i) (aB V i)).isEmpty with
       | true =>
         have hf:PlS.fit sk lm n ⟨true,plM shaG sk lm V es c cl fe i,plK shaG sk lm V es c cl fe i,clk (aN V i) cl,plFe sk lm V es c cl fe i,l,i+1⟩:=⟨hw2,fun _=>hl2.trans (List.isEmpty_iff.1 hem),fun h=>(by cases h),hi⟩
         cases mn with
         | true=>exact qfe (ds:=[true,true,true]) hV hN hi hf rfl (fun z=>lo_Bn shaG sk lm V N n k many es c cl fe l i J z) (lo_n shaG sk lm V N n k many _ _ _ _ _ _ _ (.inl rfl) _ _ _ _ _ _) (all_cons (q2d hw (hnil rfl)) (all_cons c6 (all_cons hv (all_cons hem (all_cons hnx qaa)))))
         | false=>exact qfe (ds:=[true,true,true]) hV hN hi hf rfl (fun z=>lo_Br shaG sk lm V N n k many es c cl fe l i J z) (lo_n shaG sk lm V N n k many _ _ _ _ _ _ _ (.inl rfl) _ _ _ _ _ _) (all_cons (qsi hw (hls rfl)) (all_cons c6 (all_cons hv (all_cons hem (all_cons hnx qaa)))))
       | false =>
         have hf:PlS.fit sk lm n ⟨false,plM shaG sk lm V es c cl fe i,plK shaG sk lm V es c cl fe i,clk (aN V i) cl,plFe sk lm V es c cl fe i,plL shaG sk lm V es c cl fe i,i+1⟩:=⟨hw2,fun h=>(by cases h),fun _=>hl2,hi⟩
         cases mn with
         | true=>exact qfe (ds:=[true,true,false]) hV hN hi hf rfl (fun z=>lo_Cn shaG sk lm V N n k many es c cl fe l i J z) (lo_r shaG sk lm V N n k many _ _ _ _ _ _ _ (.inl rfl) _ _ _ _ _ _) (all_cons (q2d hw (hnil rfl)) (all_cons c6 (all_cons hv (all_cons hem (all_cons hnx qaa)))))
         | false=>exact qfe (ds:=[true,true,false]) hV hN hi hf rfl (fun z=>lo_Cr shaG sk lm V N n k many es c cl fe l i J z) (lo_r shaG sk lm V N n k many _ _ _ _ _ _ _ (.inr (.inl rfl)) _ _ _ _ _ _) (all_cons (qsi hw (hls rfl)) (all_cons c6 (all_cons hv (all_cons hem (all_cons hnx qaa)))))
     | false =>
       have hf:PlS.fit sk lm n ⟨mn,es,c,cl,fe,l,i+1⟩:=⟨hw,hnil,hls,hi⟩
       cases mn with
       | true=>exact qfe (ds:=[true,false]) hV hN hi hf rfl (fun z=>lo_An shaG sk lm V N n k many es c cl fe l i J z) (lo_n shaG sk lm V N n k many _ _ _ _ _ _ _ (.inl rfl) _ _ _ _ _ _) (all_cons (q2d hw (hnil rfl)) (all_cons c6 (all_cons hv (all_cons hnx qaa))))
       | false=>exact qfe (ds:=[true,false]) hV hN hi hf rfl (fun z=>lo_Ar shaG sk lm V N n k many es c cl fe l i J z) (lo_r shaG sk lm V N n k many _ _ _ _ _ _ _ (.inl rfl) _ _ _ _ _ _) (all_cons (qsi hw (hls rfl)) (all_cons c6 (all_cons hv (all_cons hnx qaa))))
   . have c6:in06 V i false:=qoa h6
     by_cases h7:aW V i=7
     . obtain ⟨hB,hBl⟩:=q8r hw
       have hf:PlS.fit sk lm n ⟨mn,plEs sk lm es c cl fe,plEc sk lm es c cl fe,cl,fe,l,i+1⟩:=⟨hB,fun h=>hBl.trans (hnil h),fun h=>hBl.trans (hls h),hi⟩
       cases mn with
       | true=>exact qfe (ds:=[false,true]) hV hN hi hf rfl (fun z=>lo_Ln shaG sk lm V N n k many es c cl fe l i J z) (lo_n shaG sk lm V N n k many _ _ _ _ _ _ _ (.inr rfl) _ _ _ _ _ _) (all_cons (q2d hw (hnil rfl)) (all_cons c6 (all_cons (qta h7) (all_cons hnx qaa))))
       | false=>exact qfe (ds:=[false,true]) hV hN hi hf rfl (fun z=>lo_Lr shaG sk lm V N n k many es c cl fe l i J z) (lo_r shaG sk lm V N n k many _ _ _ _ _ _ _ (.inr (.inr rfl)) _ _ _ _ _ _) (all_cons (qsi hw (hls rfl)) (all_cons c6 (all_cons (qta h7) (all_cons hnx qaa))))
     . have hf:PlS.fit sk lm n ⟨mn,es,c,cl,fe,l,i+1⟩:=⟨hw,hnil,hls,hi⟩
       cases mn with
       | true=>exact qfe (ds:=[false,false]) hV hN hi hf rfl (fun z=>lo_Dn shaG sk lm V N n k many es c cl fe l i J z) (lo_n shaG sk lm V N n k many _ _ _ _ _ _ _ (.inr rfl) _ _ _ _ _ _) (all_cons (q2d hw (hnil rfl)) (all_cons c6 (all_cons (qoa h7) (all_cons hnx qaa))))
       | false=>exact qfe (ds:=[false,false]) hV hN hi hf rfl (fun z=>lo_Dr shaG sk lm V N n k many es c cl fe l i J z) (lo_r shaG sk lm V N n k many _ _ _ _ _ _ _ (.inr (.inr rfl)) _ _ _ _ _ _) (all_cons (qsi hw (hls rfl)) (all_cons c6 (all_cons (qoa h7) (all_cons hnx qaa))))
 . have hx:∀ p∈loXc sk lm n es c cl fe i,p:=all_cons (decide_eq_false (by omega)) (all_cons (decide_eq_false (by omega)) (all_cons hw (all_cons hw (all_cons (qta v40) qaa))))
   cases mn with
   | true =>
     have h0:es.length=0:=by rw [hw.len,hnil rfl]; rfl
     show q6b (q3d shaG) 5 (loKx sk lm V N n k many) _ _ ((loC shaG sk lm V N n k many true es c cl fe l i).fill J)
     exact qec (js:=[]) (names:=nmN [5,6,7,8,9]) (M:=loC shaG sk lm V N n k many true es c cl fe l i) none 20000 (fun z=>jpi shaG sk lm V N n k many es c cl fe l i J z) (qtd hx (all_cons (decide_eq_false (by omega)) (all_cons (decide_eq_false (by omega)) qaa))) fun H _=>rfl
   | false =>
     have hl:=hls rfl
     have hlen:es.length=l.length:=by rw [hw.len,hl]
     have hz2:l.length<=65536:=by
      have h5:((lsM es).length:Int)<=lm:=hw.sz
      have h6:=hw.hlm
      rw [hl] at h5
      omega
     have hr:=fun z=>lo_s shaG sk lm V N n k many es c cl fe l i J z
     rw [hl,hlen] at hr
     show q6b (q3d shaG) 5 (loKx sk lm V N n k many) _ _ ((loC shaG sk lm V N n k many false es c cl fe l i).fill J)
     refine q0e (ms:=[(0,7,.int .i64 (.lit 0))]) (es:=[(14,.ent (.own (.lst [.int .i64 (.lit 0)]) true 3))]) (ds:=[false,false,true]) (names:=nmB) (N:=17) (M:=loB shaG sk lm V N n k many cl fe l 0 (rowM l) l.length 0) (some (2,0)) 20000 (.b cl fe l 0) ⟨⟨Nat.zero_le _,hz2⟩,?_⟩ hr
      (lb_n shaG sk lm V N n k many cl fe l (rowM l) l.length 0 0) (fun m hm p u hp hu => ?_) (fun e he E0 hE0 => ?_) hx
     . show 200000+(l.length - 0)<3000000+(n - i)
       omega
     . obtain rfl:=List.mem_singleton.1 hm
       exact q4c (j7l shaG sk lm V N n k many cl fe l (rowM l) l.length 0) hp hu (qna rfl)
     . obtain rfl:=List.mem_singleton.1 he
       cases hE0
       exact ⟨_,rfl,fun γ vs hv=>hv⟩
theorem j8l (hV:q8k V n) (hN:n * 4<=N) (hs:nwP sk lm) (hz:n<=20):Runs (q3d shaG) 6 [.int .i64 (.sym sk),.int .i64 (.sym lm),slP 4 n k,.int .i64 (.sym many)] (shaH [.row (.raw V N)]) fun v _=>v=.bool (.lit true):=by
 obtain ⟨hw0,hl0⟩:=nw_w hs
 refine qbd qyv (loKx sk lm V N n k many) (jsf sk lm n) (loMu n) (fun g nm hg=>Nat.lt_of_lt_of_le (q7r hg) (by show 3<=5; omega)) ?_ fun a ha J => ?_
 . refine qhd (ms:=[(0,14,.int .i64 (.lit 0))]) (es:=[]) (ds:=[false,true,true]) (names:=nmN [5,6,7,8,9]) (N:=10) (M:=loC shaG sk lm V N n k many true [] 0 0 (-1) [] 0) (some (1,3)) 20000 (.a ⟨true,[],0,0,-1,[],0⟩) ⟨hw0,fun _=>hl0,fun h=>(by cases h),Nat.zero_le _⟩ (fun z=>lo_i shaG sk lm V N n k many z) (lo_n shaG sk lm V N n k many [] 0 0 (-1) [] 0 _ (.inl rfl) _ _ _ _ _ _) (fun q hq p v hp hv => ?_) (fun e he=>by cases he)
    (all_cons (decide_eq_false (by omega)) (all_cons (qta hs) (all_cons (qta hs) qaa)))
   obtain rfl:=List.mem_singleton.1 hq
   exact q4c (j4l shaG sk lm V N n k many [] 0 0 (-1) [] 0 true) hp hv (qna rfl)
 . cases a with
   | a s=>exact lo_a hV hN hz ha
   | b cl fe l j=>exact lo_b ha.1 ha.2
   | d cl fe l j=>exact lo_d ha.1 ha.2
end
theorem j0a {ds:List Bool} {ps:List Prop} {sk lm many:Int} {V:Nat->Value} {N n k:Nat} (h:outO [] (loT shaG sk lm V N n k many none) ds=(ps,tru)) (hp:∀ p∈ps,p):Runs (q3d shaG) 6 [.int .i64 (.sym sk),.int .i64 (.sym lm),slP 4 n k,.int .i64 (.sym many)] (shaH [.row (.raw V N)]) fun v _=>v=.bool (.lit true) :=
 qgc qyv (n:=20000) (qya (t:=qea (q3d shaG) 20000 6 [.int .i64 (.sym sk),.int .i64 (.sym lm),slP 4 n k,.int .i64 (.sym many)] (shaH [.row (.raw V N)])) h hp fun _ _=>rfl)
theorem q43 {ds:List Bool} {ps:List Prop} {sk lm many:Int} (h:outO [] (loZ shaG sk lm many) ds=(ps,tru)) (hp:∀ p∈ps,p):Runs (q3d shaG) 6 [.int .i64 (.sym sk),.int .i64 (.sym lm),.nilSlice,.int .i64 (.sym many)] (shaH []) fun v _=>v=.bool (.lit true) :=
 qgc qyv (n:=20000) (qya (t:=qea (q3d shaG) 20000 6 [.int .i64 (.sym sk),.int .i64 (.sym lm),.nilSlice,.int .i64 (.sym many)] (shaH [])) h hp fun _ _=>rfl)
theorem jxd {sk lm many:Int} {V:Nat->Value} {N n k:Nat} (hV:q8k V n) (hN:n * 4<=N):Runs (q3d shaG) 6 [.int .i64 (.sym sk),.int .i64 (.sym lm),slP 4 n k,.int .i64 (.sym many)] (shaH [.row (.raw V N)]) fun v _=>v=.bool (.lit true):=by
 by_cases hz:n<=20
 . by_cases hs:nwP sk lm
   . exact j8l hV hN hs hz
   . exact j0a (lo_e shaG sk lm V N n k many) (all_cons (decide_eq_false (by omega)) (all_cons (qoa hs) (all_cons (qoa hs) qaa)))
 . exact j0a (joi shaG sk lm V N n k many) (all_cons (decide_eq_true (by omega)) qaa)
theorem jvi {sk lm many:Int}:Runs (q3d shaG) 6 [.int .i64 (.sym sk),.int .i64 (.sym lm),.nilSlice,.int .i64 (.sym many)] (shaH []) fun v _=>v=.bool (.lit true):=by
 by_cases hs:nwP sk lm
 . obtain ⟨hw0,_⟩:=nw_w hs
   exact q43 (lo_z1 shaG sk lm many) (all_cons (qta hs) (all_cons (qta hs) (all_cons hw0 (all_cons hw0 (all_cons (qta v40) (all_cons (by decide) (all_cons (by decide) qaa)))))))
 . exact q43 (lo_z0 shaG sk lm many) (all_cons (qoa hs) (all_cons (qoa hs) qaa))
theorem loops_law {w:World} {β:Val} (hH:HeapRel Tryd.prog (fun _=>False) w β (shaH []) w) (hG:GlobRel qhc β) (sk lm many:Int) {a:Option Addr} {len cap:Nat} {V:Nat->Value} (hr:ActRow w a len cap V) :
  Calls Tryd.prog 6 #[.int .i64 sk,.int .i64 lm,.slice a len cap,.int .i64 many] w fun e w'=>e=.returned (.bool true)/\Below w.heap.size w w':=by
 rcases hr with ⟨rfl,rfl,rfl⟩ | ⟨x,rfl,hs,hl,hx,hV⟩
 . exact qb0 hH hG (denL_cons.2 ⟨_,_,rfl,denL_cons.2 ⟨_,_,rfl,denL_cons.2 ⟨_,_,rfl,rfl,rfl⟩,rfl⟩,rfl⟩) (jvi (sk:=sk) (lm:=lm) (many:=many))
 . obtain ⟨β',hH',hle,hd⟩:=jza hH hs hl hx
   exact qb0 hH' (hG.mono hle) (denL_cons.2 ⟨_,_,rfl,denL_cons.2 ⟨_,_,rfl,denL_cons.2 ⟨_,_,hd,denL_cons.2 ⟨_,_,rfl,rfl,rfl⟩,rfl⟩,rfl⟩,rfl⟩) (jxd (sk:=sk) (lm:=lm) (many:=many) (fun i hi=>hV i (by omega)) (by omega))
end
noncomputable section
open Go.Sim
open Go.Proofs
theorem HeapRel.rows {P:Program} {W:World} {β:Val} {H:List SO} (h:∀ n e,H[n]? = some e->∃ c,e=.row c/\q3y (fun _=>False) W β n c) (hb:∀ n,H.length<=n->β n=none):HeapRel P (fun _=>False) W β H W:=by
 refine ⟨⟨fun n e hn => ?_,fun n m e e' l l' hn hm ho ho' => ?_,fun n e l hn ho => ?_,⟨rfl,rfl,rfl,Nat.le_refl _,Nat.le_refl _,fun _ _ _=>rfl⟩⟩,hb⟩
 . obtain ⟨c,rfl,hc⟩:=h n e hn; exact hc
 . obtain ⟨c,rfl,hc⟩:=h n e hn; cases ho
 . obtain ⟨c,rfl,hc⟩:=h n e hn; cases ho
theorem j1a {γ:Val} (k:IntKind):∀ T:List Nat,SV.denL γ (kx k T)=some (T.map fun n=>Value.int k (Int.ofNat n))
 | []=>rfl
 | _::T=>denL_cons.2 ⟨_,_,rfl,j1a k T,rfl⟩
theorem q53 {W:World} {a:Addr} {x:Value} (h:W.cell? a=some x):a.block<W.heap.size:=by
 by_cases hb:a.block<W.heap.size
 . exact hb
 . unfold World.cell? at h
   have hn:W.heap[a.block]? = none:=Array.getElem?_eq_none (by omega)
   simp only [hn] at h
   cases h
theorem qb1 {W:World} {β:Val} {n:Nat} {l:Sim.Loc} {k:IntKind} {L:List Nat} (hl:β n=some l) (hc:∀ i,i<L.length->W.cell? ⟨l.blk,l.off+i,none⟩=some (.int k ((L.getD i 0:Nat):Int))):q3y (fun _=>False) W β n (.lst (kx k L)):=by
 refine ⟨l,_,hl,j1a k L,fun i x hx => ?_⟩
 rw [List.getElem?_map] at hx
 cases hi:L[i]? with
 | none=>rw [hi] at hx; cases hx
 | some t =>
   rw [hi] at hx; cases hx
   have hlt:i<L.length:=(List.getElem?_eq_some_iff.1 hi).1
   have hcell:=hc i hlt
   have e:L.getD i 0=t:=by rw [List.getD_eq_getElem?_getD,hi]; rfl
   rw [e] at hcell
   exact ⟨q53 hcell,fun f=>f,hcell⟩
theorem j2a {P:Program} {w:World} {name:String} {g:Nat} {t e:TypeId} {k:IntKind} {n:Nat} {L:List Nat} (hn:P.globalNamed name=some g) (hy:(P.globals[g]?).map (·.type)=some t) (ht:P.underlying t=some (.array n e)) (he:P.underlying e=some (.int k)) (hce:P.cellsOf e=1) (hct:P.cellsOf t=n)
  (h:Lib.VarReads P w name (Lib.tabData k (L.map Int.ofNat))):∀ i,i<L.length->w.cell? ⟨g,i,none⟩=some (.int k ((L.getD i 0:Nat):Int)):=by
 obtain ⟨g',t',cs,fuel,p,hg,hty,hvar,hd⟩:=h
 obtain rfl:=Option.some.inj (hn.symm.trans hg)
 obtain rfl:=Option.some.inj (hy.symm.trans hty)
 intro i hi
 have hT:Lib.TabIs P w name k (L.map Int.ofNat):=by
  unfold Lib.TabIs
  rw [hvar,← Lib.cells_of_tab ht he hce hct hd]
 have:=hT.cell hn i (by simpa using hi)
 rw [this]
 simp [List.getD_eq_getElem?_getD,List.getElem?_eq_getElem hi]
theorem jyd {P:Program} {w:World} {name:String} {g:Nat} {t e:TypeId} {k:IntKind} {l:List Nat} (hn:P.globalNamed name=some g) (hy:(P.globals[g]?).map (·.type)=some t)
  (ht:P.underlying t=some (.slice e)) (he:P.underlying e=some (.int k)) (hc:P.cellsOf e=1) (hl:0<l.length) (h:Lib.VarReads P w name (Lib.sliceData k l)) :
  ∃ R o:Nat,w.cell? ⟨g,0,none⟩=some (.slice (some ⟨R,o,none⟩) l.length l.length)/\∀ j,j<l.length->w.cell? ⟨R,o+j,none⟩=some (.int k (l.getD j 0)):=by
 obtain ⟨R,o,c,h1,h2⟩:=Lib.tabSlice_of_reads hn hy ht he hc hl h
 refine ⟨R,o,?_,h2⟩
 obtain ⟨g',t',cs,fuel,p,hg,hty,hvar,hd⟩:=h
 obtain rfl:=Option.some.inj (hn.symm.trans hg)
 obtain rfl:=Option.some.inj (hy.symm.trans hty)
 rcases DataW.trod_slice ht hd with ⟨_,hx⟩ | ⟨a,len,cap,el,rs,m,rfl,hcs,hx,_,hlc,_,hel,helem,hsp,_⟩
 . cases hx
 have e0:=congrArg Prod.fst hx
 simp only [Lib.sliceData,DataW.slice.injEq] at e0
 obtain ⟨eE,eR⟩:=e0
 have hlen:len=l.length:=by
  have:=congrArg List.length eE
  simp at this
  omega
 have hr:=(hsp rfl).1
 have hr0:rs.length=0:=by
  have:=congrArg List.length eR
  simp at this
  simp [this]
 have hcap:cap=l.length:=by omega
 have h3:w.cell? ⟨g,0,none⟩=some (.slice (some a) l.length l.length):=by
  rw [World.var?_cell hg hvar 0,← Array.getElem?_toList,hcs,hlen,hcap]
  rfl
 rw [h1] at h3
 cases h3
 exact h1
end
noncomputable section
open Go.Sim
open Go.Proofs
theorem sha_start {W:World} (hL:laidMetH Tryd.prog [("watchword/watchwordref04.constants",Rows.laid_watchword_watchwordref04_constants),("watchword/sha.start",Rows.laid_watchword_sha_start),("watchword/sha.constants",Rows.laid_watchword_sha_constants)] W) :
  ∃ β,HeapRel Tryd.prog (fun _=>False) W β (shaH []) W/\GlobRel qhc β:=by
 rw [MakeChecks.laidMetH_plain _ _ _ (by kernel_rfl)] at hL
 have e1:(Rows.laid_watchword_watchwordref04_constants:DataW Unit)=Lib.sliceData .i64 constL:=by kernel_rfl
 have e2:(Rows.laid_watchword_sha_start:DataW Unit)=Lib.tabData .u32 (startL.map Int.ofNat):=by kernel_rfl
 have e3:(Rows.laid_watchword_sha_constants:DataW Unit)=Lib.tabData .u32 (constL.map Int.ofNat):=by kernel_rfl
 rw [e1,e2,e3] at hL
 have r1:=Lib.laidMet.reads hL (n := "watchword/watchwordref04.constants") (d:=Lib.sliceData .i64 constL) (by simp)
 have r2:=Lib.laidMet.reads hL (n := "watchword/sha.start") (d:=Lib.tabData .u32 (startL.map Int.ofNat)) (by simp)
 have r3:=Lib.laidMet.reads hL (n := "watchword/sha.constants") (d:=Lib.tabData .u32 (constL.map Int.ofNat)) (by simp)
 have t2:=j2a (g:=0) (t:=97) (e:=95) (n:=8) (by kernel_rfl) (by kernel_rfl) (by kernel_rfl) (by kernel_rfl) (by kernel_rfl) (by kernel_rfl) r2
 have t3:=j2a (g:=2) (t:=110) (e:=95) (n:=64) (by kernel_rfl) (by kernel_rfl) (by kernel_rfl) (by kernel_rfl) (by kernel_rfl) (by kernel_rfl) r3
 obtain ⟨R,o,c1,c2⟩:=jyd (g:=1) (t:=107) (e:=3) (by kernel_rfl) (by kernel_rfl) (by kernel_rfl) (by kernel_rfl) (by kernel_rfl) (by decide) r1
 have hc64:constL.length=64:=rfl
 rw [hc64] at c1
 let β:Val:=fun n=>match n with
  | 0=>some (Sim.Loc.mk 0 0 0)
  | 1=>some (Sim.Loc.mk 2 0 0)
  | 2=>some (Sim.Loc.mk 1 0 0)
  | 3=>some (Sim.Loc.mk R o 0)
  | _=>none
 refine ⟨β,HeapRel.rows (fun n e hn => ?_) fun n hn => ?_,fun g nm hg => ?_⟩
 . match n,hn with
   | 0,hn=>cases hn; exact ⟨_,rfl,qb1 (l:=Sim.Loc.mk 0 0 0) rfl fun i hi=>by rw [show (Sim.Loc.mk 0 0 0).off+i=i from Nat.zero_add i]; exact t2 i hi⟩
   | 1,hn=>cases hn; exact ⟨_,rfl,qb1 (l:=Sim.Loc.mk 2 0 0) rfl fun i hi=>by rw [show (Sim.Loc.mk 2 0 0).off+i=i from Nat.zero_add i]; exact t3 i hi⟩
   | 2,hn =>
     cases hn
     refine ⟨_,rfl,Sim.Loc.mk 1 0 0,[.slice (some ⟨R,o,none⟩) 64 64],rfl,?_,fun i x hx => ?_⟩
     . show SV.denL β [.slice ⟨3,.lit 0⟩ (.lit 64) (.lit 64)]=_
       rfl
     . cases i with
       | zero =>
         cases hx
         exact ⟨q53 c1,fun f=>f,c1⟩
       | succ i=>simp at hx
   | 3,hn=>cases hn; exact ⟨_,rfl,qb1 (l:=Sim.Loc.mk R o 0) rfl fun i hi=>c2 i hi⟩
   | n+4,hn=>simp [shaH] at hn
 . match n,hn with
   | n+4,_=>rfl
   | 0,hn=>simp [shaH] at hn
   | 1,hn=>simp [shaH] at hn
   | 2,hn=>simp [shaH] at hn
   | 3,hn=>simp [shaH] at hn
 . rcases q2c (show boolC (Nat.beq g 0) (some 0) _=some nm from hg) with ⟨h1,h2⟩ | h
   . cases h2; exact ⟨_,rfl,(q8b h1).symm,rfl⟩
   . rcases q2c (show boolC (Nat.beq g 2) (some 1) _=some nm from h) with ⟨h1,h2⟩ | h
     . cases h2; exact ⟨_,rfl,(q8b h1).symm,rfl⟩
     . obtain ⟨h1,h2⟩:=q4b (show boolC (Nat.beq g 1) (some 2) none=some nm from h)
       cases h2; exact ⟨_,rfl,(q8b h1).symm,rfl⟩
end
end Go.Proofs.YthkgcljngalafaaDoor.Aes
