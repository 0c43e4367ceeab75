/-
  Texts behind one another: the symbolic simulator and what it is told of the program.
-/
import Derived.Test.YthkgcljngalafaaDoorPr13
import Derived.Test.YthkgcljngalafaaDoorZrOn2
import Derived.Test.YthkgcljngalafaaDoorZrOn3
import Derived.Test.YthkgcljngalafaaDoorZrOn4
import Derived.Test.YthkgcljngalafaaDoorZrOn5
import Derived.Test.YthkgcljngalafaaDoorZrOn6
import Derived.Test.YthkgcljngalafaaDoorZrOn9
import Derived.Test.YthkgcljngalafaaDoorZrSha3
import Derived.Test.YthkgcljngalafaaDoorRows
import Derived.Lib.LaidPrint
import Derived.Lib.LaidTab
import Derived.MakeChecks
import Derived.Test.YthkgcljngalafaaDoorPr8
namespace Go.Proofs.YthkgcljngalafaaDoor.Aes
noncomputable section
open Go.Sim
open Go.Proofs
variable {α:Type}
set_option maxRecDepth 1000000
def TkP (sk:Int) (es:List MapEntry) (cl fe:Int) (x:Mk):Prop:=x∈lsM es\/x.1<cl - sk\/x.1<=fe
section
variable {f:HashF} {es:List MapEntry} {c:Nat} {sk lm cl fe now t:Int} {b:BitVec 8} {x y:Mk}
theorem TkP.use (hw:ChW es c sk lm cl fe) (h:TkP sk es cl fe y):TkP sk (esN es sk cl now) (clk now cl) fe y:=by
 have hle:=qbl now cl
 rcases h with h | h | h
 . by_cases hy:yng sk (clk now cl) y=true
   . exact .inl (by rw [qd1 hw.ok now,List.mem_filter]; exact ⟨h,hy⟩)
   . unfold yng at hy
     simp at hy
     exact .inr (.inl (by omega))
 . exact .inr (.inl (by omega))
 . exact .inr (.inr h)
theorem TkP.loss (hw:ChW es c sk lm cl fe) (hf:fe<=cl+sk) {cl':Int} (hc:cl<=cl') {es':List MapEntry} (h:TkP sk es cl fe y):TkP sk es' cl' (cl'+sk) y:=by
 have hs:=hw.hsk
 refine .inr (.inr ?_)
 rcases h with h | h | h
 . have:=(hw.nr y h).2
   omega
 . omega
 . omega
def prE' (f:HashF) (es:List MapEntry) (c:Nat) (sk lm cl fe t now:Int) (b:BitVec 8):Int:=(onD sk lm es c cl fe).e (xK f t b) now
def prM' (f:HashF) (es:List MapEntry) (c:Nat) (sk lm cl fe t now:Int) (b:BitVec 8):List MapEntry:=prM (prE' f es c sk lm cl fe t now b) (xK f t b) (esN es sk cl now) c
def prC' (f:HashF) (es:List MapEntry) (c:Nat) (sk lm cl fe t now:Int) (b:BitVec 8):Nat:=prC (prE' f es c sk lm cl fe t now b) c
theorem qgl (hw:ChW es c sk lm cl fe) (hv:vTm t/\vTm now):ChW (prM' f es c sk lm cl fe t now b) (prC' f es c sk lm cl fe t now b) sk lm (clk now cl) fe /\
  lsM (prM' f es c sk lm cl fe t now b)=prL (prE' f es c sk lm cl fe t now b) (xK f t b) (lsM (esN es sk cl now)):=jeh (f:=f) (b:=b) hw hv
theorem jef {e:Int} {u:List Mk} (h:y∈u):y∈prL e x u:=by
 unfold prL
 cases isZ e with
 | true=>exact (qcf x u).mem_iff.2 (List.mem_cons_of_mem _ h)
 | false=>exact h
theorem TkP.pres (hw:ChW es c sk lm cl fe) (hv:vTm t/\vTm now) (h:TkP sk es cl fe y):TkP sk (prM' f es c sk lm cl fe t now b) (clk now cl) fe y:=by
 rcases h.use hw (now:=now) with h | h | h
 . exact .inl (by rw [(qgl hw hv).2]; exact jef h)
 . exact .inr (.inl h)
 . exact .inr (.inr h)
theorem qiz (hw:ChW es c sk lm cl fe) (hv:vTm t/\vTm now) (he:prE' f es c sk lm cl fe t now b=0):xK f t b∈lsM (prM' f es c sk lm cl fe t now b)/\∀ y,TkP sk es cl fe y->y≠xK f t b:=by
 have hE:prE sk lm (clk now cl) fe (xK f t b) (lsM (esN es sk cl now))=0:=he
 refine ⟨?_,fun y hy hxy => ?_⟩
 . rw [(qgl hw hv).2,he]
   exact (qcf _ _).mem_iff.2 List.mem_cons_self
 . subst hxy
   rcases qho sk lm (clk now cl) fe (xK f t b) (lsM (esN es sk cl now)) with ⟨_,h⟩ | ⟨_,_,h⟩ | ⟨_,_,_,h⟩ | ⟨_,_,_,_,h⟩ | ⟨h1,h2,h3,h4,h⟩
   . omega
   . omega
   . omega
   . omega
   . rcases hy.use hw (now:=now) with h | h | h
     . exact h3 h
     . exact h1 (.inl h)
     . exact h2 h
end
section
variable {V T:Nat->Value} {q i:Nat}
theorem q7q:q5c V i 0=.int .i64 (aW V i)/\q5c V i 1=.int .i64 (aT V i)/\q5c V i 2=.int .i64 (aN V i)/\q5c V i 3=.int .u8 ((aB V i).toNat:Int):=⟨rfl,rfl,rfl,rfl⟩
theorem q87:∀ r,r<4->(q5c V i r).oneCell'=true:=fun r hr=>by
 obtain ⟨h0,h1,h2,h3⟩:=q7q (V:=V) (i:=i)
 rcases (show r=0\/r=1\/r=2\/r=3 by omega) with rfl | rfl | rfl | rfl
 . rw [h0]; rfl
 . rw [h1]; rfl
 . rw [h2]; rfl
 . rw [h3]; rfl
theorem qkg {j:Nat} (h:j<q * 4):qze T q V i j=T j:=by
 unfold qze catV
 rw [if_pos h]
 show T (0+j)=_
 rw [Nat.zero_add]
theorem qlg {r:Nat}:qze T q V i (q * 4+r)=q5c V i r:=by
 unfold qze catV
 rw [if_neg (by omega),show q * 4+r - q * 4=r by omega]
theorem j8a (h:qfd T q):qfd (qze T q V i) (q+1):=fun k hk=>by
 by_cases hq:k<q
 . rw [qkg (by omega),qkg (by omega),qkg (by omega),qkg (by omega)]
   exact h k hq
 . obtain rfl:k=q:=by omega
   obtain ⟨h0,h1,h2,h3⟩:=q7q (V:=V) (i:=i)
   have e0:qze T k V i (k * 4)=_:=qlg (r:=0)
   rw [e0,qlg,qlg,qlg,h0,h1,h2,h3]
   exact ⟨⟨_,rfl⟩,⟨_,rfl⟩,⟨_,rfl⟩,_,rfl⟩
theorem j9a:qfd (q5c V i) 1:=fun k hk=>by
 obtain rfl:k=0:=by omega
 exact ⟨⟨_,rfl⟩,⟨_,rfl⟩,⟨_,rfl⟩,_,rfl⟩
theorem q97 (f:HashF) (k:Nat) (hk:k<q+1):xK f (aT (qze T q V i) k) (aB (qze T q V i) k)=(if k<q then xK f (aT T k) (aB T k) else xK f (aT V i) (aB V i)):=by
 unfold aT aB
 by_cases hq:k<q
 . rw [if_pos hq,qkg (by omega),qkg (by omega)]
 . obtain rfl:k=q:=by omega
   rw [if_neg hq,show 0+k * 4+1=k * 4+1 by omega,show 0+k * 4+3=k * 4+3 by omega,qlg,qlg]
   obtain ⟨_,h1,_,h3⟩:=q7q (V:=V) (i:=i)
   rw [h1,h3]
   show xK f (aT V i) (BitVec.ofInt 8 (((aB V i).toNat:Nat):Int))=_
   rw [qci]
   rfl
theorem qa8 (f:HashF):xK f (aT (q5c V i) 0) (aB (q5c V i) 0)=xK f (aT V i) (aB V i):=by
 show xK f (aT V i) (BitVec.ofInt 8 (((aB V i).toNat:Nat):Int))=_
 rw [qci]
theorem qb8 {g:Nat->Nat}:(Cells.lst [.int .i64 (.sym (aW V i)),.int .i64 (.sym (aT V i)),.int .i64 (.sym (aN V i)),.int .u8 (.b8 (aB V i))]).Imp ((Cells.raw (q5c V i) (1 * 4)).ren g):=by
 intro γ vs hv
 have hv:some (onVs V i)=some vs:=hv
 cases hv
 refine ⟨rfl,fun r x hx => ?_⟩
 have:r<4:=(List.getElem?_eq_some_iff.1 hx).1
 show x=((onVs V i)[0+r]?).getD undef
 rw [Nat.zero_add,hx]; rfl
end
theorem w5_t {V:Nat->Value} {i k:Nat} (h:aW V i=(k:Int)):w5 V i k true:=by unfold w5; exact beq_iff_eq.2 h
theorem w5_f {V:Nat->Value} {i k:Nat} (h:aW V i≠(k:Int)):w5 V i k false:=beq_eq_false_iff_ne.2 h
end
noncomputable section
open Go.Sim
open Go.Proofs
open Go.RowKit (Below)
variable {α:Type}
set_option maxRecDepth 1000000
structure OnS where
 mt:Bool
 m:Nat
 es:List MapEntry
 c:Nat
 cl:Int
 fe:Int
 T:Nat->Value
 q:Nat
 i:Nat
structure OnFit (sk lm:Int) (n d:Nat) (mt:Bool) (m:Nat) (es:List MapEntry) (c:Nat) (cl fe:Int) (T:Nat->Value) (q i:Nat):Prop where
 w:ChW es c sk lm cl fe
 fl:fe<=cl+sk
 nil:mt=true->q=0
 tk:qfd T q
 ok:∀ k,k<q->TkP sk es cl fe (xK shaG (aT T k) (aB T k))
 qi:q<=i+d
 mi:m<=i
 le:i<=n
def OnS.fit (sk lm:Int) (n d:Nat) (a:OnS):Prop:=OnFit sk lm n d a.mt a.m a.es a.c a.cl a.fe a.T a.q a.i
inductive OnW
 | c (s:OnS)
 | a (s:OnS) (j:Nat)
 | b (s:OnS) (j:Nat)
section
variable (sk lm:Int) (V:Nat->Value) (N n k:Nat)
def onKx:OnW->Cut
 | .c s=>onC shaG sk lm V N n k s.mt s.m s.es s.c s.cl s.fe s.T s.q s.i
 | .a s j=>onA shaG sk lm V N n k s.m s.es s.c s.cl s.fe s.T s.q s.i j
 | .b s j=>onB shaG sk lm V N n k s.mt s.m s.es s.c s.cl s.fe s.T s.q s.i j
def qit:OnW->Prop
 | .c s=>s.fit sk lm n 0
 | .a s j=>s.fit sk lm n 0/\s.mt=false/\s.i<n/\j<=s.q/\xK shaG (aT V s.i) (aB V s.i)∈lsM s.es/\∀ k,k<s.q->¬ (aT s.T k=aT V s.i/\aB s.T k=aB V s.i)
 | .b s j=>s.fit sk lm n 1/\s.i<n/\j<=s.es.length
def onMu:OnW->Nat
 | .c s=>(n - s.i) * 200000
 | .a s j=>(n - s.i - 1) * 200000+100000+(s.q - j)
 | .b s j=>(n - s.i - 1) * 200000+1+(s.es.length - j)
end
theorem ChW.short {es:List MapEntry} {c:Nat} {sk lm cl fe:Int} (h:ChW es c sk lm cl fe):es.length<=65536:=by
 have h1:=h.len
 have h2:=h.sz
 have h3:=h.hlm
 omega
section
variable {sk lm:Int} {V:Nat->Value} {N n k:Nat}
def qyf (sk lm:Int) (V:Nat->Value) (N n k:Nat) (a:OnW) (J:Junk):Prop:=q6d (qge shaG) 5 (onKx sk lm V N n k) (fun b=>qit sk lm V n b/\onMu n b<onMu n a) (fun v _=>v=.bool (.lit true)) ((onKx sk lm V N n k a).fill J)
theorem qio {a:OnW} {J:Junk} {s:OnS} {M:Cut} {names:List Nat} {ds:List Bool} {ps:List Prop} {Q:Nat} {es':List (Nat × HP)} (hs:s.fit sk lm n 1) (hi:s.i<n) (hz:n<=60) (hmu:(n - s.i - 1) * 200000+1+s.es.length<onMu n a)
  (h:∀ z,outL [] M names (sim1 ((qge shaG).at (some (2,0))) 20000 ((onKx sk lm V N n k a).fill J)) ds z=(ps,sM mo7 es' names Q (onKx sk lm V N n k (.b s 0))))
  (hn:boolC (q0a 5 names M (onKx sk lm V N n k (.b s 0))) (allN qva (onKx sk lm V N n k (.b s 0)).heap) false=true)
  (hE:∀ e∈es',∀ E0,(onKx sk lm V N n k (.b s 0)).heap[e.1]? = some E0->ImpE (q8a names Q) (some e.2) E0) (hp:∀ p∈ps,p):qyf sk lm V N n k a J:=by
 have hm:s.m<60:=by have:=hs.mi; omega
 refine qih (some (2,0)) 20000 (.b s 0) ⟨⟨hs,hi,Nat.zero_le _⟩,by show (n - s.i - 1) * 200000+1+(s.es.length - 0)<_; omega⟩ h hn (fun r hr p u hp hu => ?_) hE hp
 obtain rfl:=List.mem_singleton.1 hr
 exact qnf (qta (qv1 shaG sk lm V N n k s.es s.c s.cl s.fe s.T s.q s.i 0 s.mt) hm) hp hu (q9a rfl)
theorem on_A (hV:qfd V n) (hN:n * 4<=N) {i:Nat} (hi:i<n) {r:List Prop} (hr:∀ p∈r,p):∀ p∈plA V N n i r,p :=
 all_cons (decide_eq_true (by omega)) (all_cons ⟨by omega,by omega⟩ (all_cons (by omega) (all_cons (qhz hV hi) hr)))
theorem on_cu (hV:qfd V n) (hN:n * 4<=N) (hz:n<=60) {mt:Bool} {m:Nat} {es:List MapEntry} {c:Nat} {cl fe:Int} {T:Nat->Value} {q i:Nat} {J:Junk} (ha:OnFit sk lm n 0 mt m es c cl fe T q i) (hi:i<n) (h5:aW V i=5):qyf sk lm V N n k (.c ⟨mt,m,es,c,cl,fe,T,q,i⟩) J:=by
 obtain ⟨hw,hfl,hnil,htk,hok,hqi,hmi,hle⟩:=ha
 have hcl:=hw.hcl
 have hsk:=hw.hsk
 have hm:m<60:=by omega
 have hnx:nxI i:=⟨by omega,by omega⟩
 have hA:∀ {r:List Prop},(∀ p∈r,p)->∀ p∈plA V N n i r,p:=fun hr=>on_A hV hN hi hr
 have hmu:∀ l,l<=65536->(n - i - 1) * 200000+1+l<(n - i) * 200000:=fun l hl=>by omega
 by_cases hv:vTm (aN V i)
 . have hu:=hw.use hv
   have hle:=qbl (aN V i) cl
   exact qio (s:=⟨mt,m,esN es sk cl (aN V i),c,clk (aN V i) cl,fe,T,q,i⟩) ⟨hu,by show fe<=clk (aN V i) cl+sk; omega,hnil,htk,fun k hk=>(hok k hk).use hw,by show q<=i+1; omega,hmi,by omega⟩ hi hz (hmu _ hu.short)
    (fun z=>qta (on_u1 shaG sk lm V N n k es c cl fe T q i J z mt) hm) (qta (no_b shaG sk lm V N n k (esN es sk cl (aN V i)) c (clk (aN V i) cl) fe T q i 0 mt) hm) (fun e he=>by cases he)
    (hA (all_cons (w5_t h5) (all_cons hw (all_cons (qsb hv) (all_cons hu qca)))))
 . exact qio (s:=⟨mt,m,es,c,cl,fe,T,q,i⟩) ⟨hw,hfl,hnil,htk,hok,by show q<=i+1; omega,hmi,by omega⟩ hi hz (hmu _ hw.short)
    (fun z=>qta (on_u0 shaG sk lm V N n k es c cl fe T q i J z mt) hm) (qta (no_b shaG sk lm V N n k es c cl fe T q i 0 mt) hm) (fun e he=>by cases he)
    (hA (all_cons (w5_t h5) (all_cons hw (all_cons (qfb hv) (all_cons hw qca)))))
theorem on_cl (hV:qfd V n) (hN:n * 4<=N) (hz:n<=60) {mt:Bool} {m:Nat} {es:List MapEntry} {c:Nat} {cl fe:Int} {T:Nat->Value} {q i:Nat} {J:Junk} (ha:OnFit sk lm n 0 mt m es c cl fe T q i) (hi:i<n) (hs:nwP sk lm) (h5:aW V i≠5) (h6:aW V i=6):qyf sk lm V N n k (.c ⟨mt,m,es,c,cl,fe,T,q,i⟩) J:=by
 obtain ⟨hw,hfl,hnil,htk,hok,hqi,hmi,hle⟩:=ha
 have hcl:=hw.hcl
 have hsk:=hw.hsk
 have hm:m<60:=by omega
 have hnx:nxI i:=⟨by omega,by omega⟩
 have hA:∀ {r:List Prop},(∀ p∈r,p)->∀ p∈plA V N n i r,p:=fun hr=>on_A hV hN hi hr
 have hmu:∀ l,l<=65536->(n - i - 1) * 200000+1+l<(n - i) * 200000:=fun l hl=>by omega
 obtain ⟨hw0,_⟩:=nw_w hs
 have hmx:cl<=mxN cl (aN V i):=by unfold mxN; split <;> omega
 by_cases hv:mxN cl (aN V i)<=1099511627776
 . have hvt:vTm (mxN cl (aN V i)):=by unfold vTm at *; omega
   have hu:=(hw0.use hvt).fence
   have hcm:cl<=clk (mxN cl (aN V i)) 0:=by
    unfold clk
    unfold vTm at hcl
    split <;> omega
   exact qio (s:=⟨mt,m,esN [] sk 0 (mxN cl (aN V i)),0,clk (mxN cl (aN V i)) 0,clk (mxN cl (aN V i)) 0+sk,T,q,i⟩) ⟨hu,Int.le_refl _,hnil,htk,fun k hk=>(hok k hk).loss hw hfl hcm,by show q<=i+1; omega,hmi,by omega⟩ hi hz (hmu _ hu.short)
    (fun z=>qta (on_l1 shaG sk lm V N n k es c cl fe T q i J z mt) hm) (qta (no_l1 shaG sk lm V N n k (esN [] sk 0 (mxN cl (aN V i))) 0 (clk (mxN cl (aN V i)) 0) (clk (mxN cl (aN V i)) 0+sk) T q i 0 mt) hm) (fun e he=>by cases he)
    (hA (all_cons (w5_f h5) (all_cons (w5_t h6) (all_cons hw (all_cons (qsb hs) (all_cons hw0 (all_cons (qsb hvt) (all_cons (decide_eq_false (by omega)) (all_cons hu qca)))))))))
 . have hvt:¬ vTm (mxN cl (aN V i)):=by unfold vTm; omega
   exact qdd (js:=[]) (names:=[]) (M:=onC shaG sk lm V N n k mt m es c cl fe T q i) none 20000 (fun z=>qta (on_l2 shaG sk lm V N n k es c cl fe T q i J z mt) hm)
    (hA (all_cons (w5_f h5) (all_cons (w5_t h6) (all_cons hw (all_cons (qsb hs) (all_cons hw0 (all_cons (qfb hvt) (all_cons (decide_eq_false (by omega)) (all_cons (decide_eq_true (by omega)) qca))))))))) fun H _=>rfl
theorem on_cd (hV:qfd V n) (hN:n * 4<=N) (hz:n<=60) {mt:Bool} {m:Nat} {es:List MapEntry} {c:Nat} {cl fe:Int} {T:Nat->Value} {q i:Nat} {J:Junk} (ha:OnFit sk lm n 0 mt m es c cl fe T q i) (hi:i<n) (h5:aW V i≠5) (h6:aW V i≠6) (h7:aW V i=7):qyf sk lm V N n k (.c ⟨mt,m,es,c,cl,fe,T,q,i⟩) J:=by
 obtain ⟨hw,hfl,hnil,htk,hok,hqi,hmi,hle⟩:=ha
 have hcl:=hw.hcl
 have hsk:=hw.hsk
 have hm:m<60:=by omega
 have hnx:nxI i:=⟨by omega,by omega⟩
 have hA:∀ {r:List Prop},(∀ p∈r,p)->∀ p∈plA V N n i r,p:=fun hr=>on_A hV hN hi hr
 have hmu:∀ l,l<=65536->(n - i - 1) * 200000+1+l<(n - i) * 200000:=fun l hl=>by omega
 obtain ⟨hB,hBl⟩:=j5a hw
 obtain ⟨g1,g2,g3,g4⟩:=j6a hw
 obtain ⟨e1,e2,e3,e4,_,_⟩:=qgz hw
 have e4:bnI (imX es sk lm cl fe) 24 - 1=fe:=by rw [e4]; omega
 have hr:=fun z=>qta (on_ld shaG sk lm V N n k es c cl fe T q i J z mt) hm
 change ∀ z,_=(plA V N n i [_,_,_,_,_,_,_,_,_,(doC _ _ (bnI (imX es sk lm cl fe) 0) (bnI (imX es sk lm cl fe) 8) (bnI (imX es sk lm cl fe) 16) (bnI (imX es sk lm cl fe) 24 - 1) 7 8).w],sM mo7 [(7,.ent (chO (onE mt m+2) (bnI (imX es sk lm cl fe) 0) (bnI (imX es sk lm cl fe) 8) (bnI (imX es sk lm cl fe) 16) (bnI (imX es sk lm cl fe) 24 - 1)))] _ _ _) at hr
 rw [e1,e2,e3,e4] at hr
 refine qio (s:=⟨mt,m,esX (imX es sk lm cl fe) (cntI (imX es sk lm cl fe)),cntI (imX es sk lm cl fe),cl,fe,T,q,i⟩) ⟨hB,hfl,hnil,htk,fun k hk => ?_,by show q<=i+1; omega,hmi,by omega⟩ hi hz (hmu _ hB.short)
  hr (qta (no_ld shaG sk lm V N n k (esX (imX es sk lm cl fe) (cntI (imX es sk lm cl fe))) (cntI (imX es sk lm cl fe)) cl fe T q i 0 mt) hm) (fun e he E0 hE0 => ?_)
  (hA (all_cons (w5_f h5) (all_cons (w5_f h6) (all_cons (w5_t h7) (all_cons hw (all_cons (q6c _) (all_cons ⟨rfl,?_⟩ (all_cons (qfb g1) (all_cons (qfb g2) (all_cons (qsb ⟨g3,g4⟩) (all_cons hB qca)))))))))))
 . have h:=hok k hk
   unfold TkP at h ⊢
   rw [hBl]
   exact h
 . obtain rfl:=List.mem_singleton.1 he
   have h7:=no_h7 shaG sk lm V N n k (esX (imX es sk lm cl fe) (cntI (imX es sk lm cl fe))) (cntI (imX es sk lm cl fe)) cl fe T q i 0 mt m
   obtain rfl:=Option.some.inj (h7.symm.trans hE0)
   have e8:=qta (no_8 mt) hm
   refine ⟨_,rfl,?_⟩
   show (Cells.lst [.int .i64 (.sym sk),.int .i64 (.sym lm),.int .i64 (.sym cl),.int .i64 (.sym fe),.map (onE mt m+2)]).Imp (.lst [.int .i64 (.sym sk),.int .i64 (.sym lm),.int .i64 (.sym cl),.int .i64 (.sym fe),.map (q8a (onN [onE mt m+1,onE mt m+2,9] 7 (onE mt m - 10) [onE mt m+3,onE mt m+4,onE mt m+5,onE mt m+6]) (onE mt m+7) 8)])
   rw [e8]
   exact fun γ vs hv=>hv
 . show 40+40 * es.length<=_
   have:=hw.short
   omega
theorem on_cn (hV:qfd V n) (hN:n * 4<=N) (hz:n<=60) {m:Nat} {es:List MapEntry} {c:Nat} {cl fe:Int} {T:Nat->Value} {i:Nat} {J:Junk} (ha:OnFit sk lm n 0 true m es c cl fe T 0 i) (hi:i<n) (h5:aW V i≠5) (h6:aW V i≠6) (h7:aW V i≠7) (hv:vTm (aT V i)/\vTm (aN V i)) (he:prE' shaG es c sk lm cl fe (aT V i) (aN V i) (aB V i)=0):qyf sk lm V N n k (.c ⟨true,m,es,c,cl,fe,T,0,i⟩) J:=by
 obtain ⟨hw,hfl,hnil,htk,hok,hqi,hmi,hle⟩:=ha
 have hsk:=hw.hsk
 have hm:m<60:=by omega
 obtain ⟨hP,hPl⟩:=qgl (f:=shaG) (b:=aB V i) hw hv
 have hcm:=qbl (aN V i) cl
 obtain ⟨hin,hnew⟩:=qiz hw hv he
 have hcode:(qhi shaG V i (onD sk lm es c cl fe) != 0)=false:=by
  show (prE' shaG es c sk lm cl fe (aT V i) (aN V i) (aB V i) != 0)=false
  rw [he]; rfl
 have hf:OnFit sk lm n 1 false m (prM' shaG es c sk lm cl fe (aT V i) (aN V i) (aB V i)) (prC' shaG es c sk lm cl fe (aT V i) (aN V i) (aB V i)) (clk (aN V i) cl) fe (q5c V i) 1 i:=⟨hP,by omega,fun h=>(by cases h),j9a,fun k hk=>by
  obtain rfl:k=0:=by omega
  rw [qa8]
  exact .inl hin,by omega,hmi,by omega⟩
 refine qih (ms:=(1,9,.slice ⟨12+m,.lit 0⟩ (.lit 1) (.rest (12+m) 0))::mo7) (es:=[(10+m,.ent (j0c V i))]) (some (2,0)) 20000 (.b ⟨false,m,(prM' shaG es c sk lm cl fe (aT V i) (aN V i) (aB V i)),(prC' shaG es c sk lm cl fe (aT V i) (aN V i) (aB V i)),(clk (aN V i) cl),fe,q5c V i,1,i⟩ 0)
  ⟨⟨hf,hi,Nat.zero_le _⟩,?_⟩
  (fun z=>qta (on_dn shaG sk lm V N n k es c cl fe (q5c V i) 0 i J z) hm) (qta (no_dn shaG sk lm V N n k (prM' shaG es c sk lm cl fe (aT V i) (aN V i) (aB V i)) (prC' shaG es c sk lm cl fe (aT V i) (aN V i) (aB V i)) (clk (aN V i) cl) fe (q5c V i) 1 i 0) hm) (fun r hr p u hp hu => ?_) (fun e he E0 hE0 => ?_)
  (on_A hV hN hi (all_cons (w5_f h5) (all_cons (w5_f h6) (all_cons (w5_f h7) (all_cons rfl (all_cons hw (all_cons (qsb hv) (all_cons hcode (all_cons hP qca)))))))))
 . have h1:=hP.short
   show (n - i - 1) * 200000+1+((prM' shaG es c sk lm cl fe (aT V i) (aN V i) (aB V i)).length - 0)<(n - i) * 200000
   omega
 . rcases List.mem_cons.1 hr with rfl | hr
   . exact qnf (qta (j7a shaG sk lm V N n k (prM' shaG es c sk lm cl fe (aT V i) (aN V i) (aB V i)) (prC' shaG es c sk lm cl fe (aT V i) (aN V i) (aB V i)) (clk (aN V i) cl) fe (q5c V i) 1 i 0) hm) hp hu (by
      show SV.Imp (.slice ⟨12+m,.lit 0⟩ (.lit 1) (.rest (12+m) 0)) (.slice ⟨q8a (app (qba (10+m) 0) [12+m,10+m,13+m,14+m,15+m,16+m]) (17+m) (10+m),.lit 0⟩ (.sym 1) (.rest (q8a (app (qba (10+m) 0) [12+m,10+m,13+m,14+m,15+m,16+m]) (17+m) (10+m)) 0))
      rw [qta no_9 hm]
      exact fun _ _ h=>h)
   . obtain rfl:=List.mem_singleton.1 hr
     exact qnf (qta (qv1 shaG sk lm V N n k (prM' shaG es c sk lm cl fe (aT V i) (aN V i) (aB V i)) (prC' shaG es c sk lm cl fe (aT V i) (aN V i) (aB V i)) (clk (aN V i) cl) fe (q5c V i) 1 i 0 false) hm) hp hu (q9a rfl)
 . obtain rfl:=List.mem_singleton.1 he
   have h7:=qta (no_h shaG sk lm V N n k (prM' shaG es c sk lm cl fe (aT V i) (aN V i) (aB V i)) (prC' shaG es c sk lm cl fe (aT V i) (aN V i) (aB V i)) (clk (aN V i) cl) fe (q5c V i) 1 i 0) hm
   obtain rfl:=Option.some.inj (h7.symm.trans hE0)
   exact ⟨_,rfl,qb8⟩
theorem on_cr (hV:qfd V n) (hN:n * 4<=N) (hz:n<=60) {m:Nat} {es:List MapEntry} {c:Nat} {cl fe:Int} {T:Nat->Value} {q i:Nat} {J:Junk} (ha:OnFit sk lm n 0 false m es c cl fe T q i) (hi:i<n) (h5:aW V i≠5) (h6:aW V i≠6) (h7:aW V i≠7) (hv:vTm (aT V i)/\vTm (aN V i)) (he:prE' shaG es c sk lm cl fe (aT V i) (aN V i) (aB V i)=0):qyf sk lm V N n k (.c ⟨false,m,es,c,cl,fe,T,q,i⟩) J:=by
 obtain ⟨hw,hfl,hnil,htk,hok,hqi,hmi,hle⟩:=ha
 have hsk:=hw.hsk
 have hm:m<60:=by omega
 obtain ⟨hP,hPl⟩:=qgl (f:=shaG) (b:=aB V i) hw hv
 have hcm:=qbl (aN V i) cl
 obtain ⟨hin,hnew⟩:=qiz hw hv he
 have hcode:(qhi shaG V i (onD sk lm es c cl fe) != 0)=false:=by
  show (prE' shaG es c sk lm cl fe (aT V i) (aN V i) (aB V i) != 0)=false
  rw [he]; rfl
 have hnot:∀ k,k<q->¬ (aT T k=aT V i/\aB T k=aB V i):=fun k hk h=>hnew _ (hok k hk) (by rw [h.1,h.2])
 have hf:OnFit sk lm n 0 false m (prM' shaG es c sk lm cl fe (aT V i) (aN V i) (aB V i)) (prC' shaG es c sk lm cl fe (aT V i) (aN V i) (aB V i)) (clk (aN V i) cl) fe T q i:=⟨hP,by omega,hnil,htk,fun k hk=>(hok k hk).pres hw hv,hqi,hmi,by omega⟩
 refine qih (ms:=[(0,15,.int .i64 (.lit 0))]) (es:=[]) (some (1,10)) 20000 (.a ⟨false,m,(prM' shaG es c sk lm cl fe (aT V i) (aN V i) (aB V i)),(prC' shaG es c sk lm cl fe (aT V i) (aN V i) (aB V i)),(clk (aN V i) cl),fe,T,q,i⟩ 0)
  ⟨⟨hf,rfl,hi,Nat.zero_le _,hin,hnot⟩,?_⟩
  (fun z=>qta (on_dr shaG sk lm V N n k es c cl fe T q i J z) hm) (qta (no_a shaG sk lm V N n k (prM' shaG es c sk lm cl fe (aT V i) (aN V i) (aB V i)) (prC' shaG es c sk lm cl fe (aT V i) (aN V i) (aB V i)) (clk (aN V i) cl) fe T q i 0) hm) (fun r hr p u hp hu => ?_) (fun e he=>by cases he)
  (on_A hV hN hi (all_cons (w5_f h5) (all_cons (w5_f h6) (all_cons (w5_f h7) (all_cons rfl (all_cons hw (all_cons (qsb hv) (all_cons hcode qca))))))))
 . show (n - i - 1) * 200000+100000+(q - 0)<(n - i) * 200000
   omega
 . obtain rfl:=List.mem_singleton.1 hr
   exact qnf (qta (jdf shaG sk lm V N n k (prM' shaG es c sk lm cl fe (aT V i) (aN V i) (aB V i)) (prC' shaG es c sk lm cl fe (aT V i) (aN V i) (aB V i)) (clk (aN V i) cl) fe T q i 0) hm) hp hu (q9a rfl)
theorem on_cp (hV:qfd V n) (hN:n * 4<=N) (hz:n<=60) {mt:Bool} {m:Nat} {es:List MapEntry} {c:Nat} {cl fe:Int} {T:Nat->Value} {q i:Nat} {J:Junk} (ha:OnFit sk lm n 0 mt m es c cl fe T q i) (hi:i<n) (h5:aW V i≠5) (h6:aW V i≠6) (h7:aW V i≠7):qyf sk lm V N n k (.c ⟨mt,m,es,c,cl,fe,T,q,i⟩) J:=by
 obtain ⟨hw,hfl,hnil,htk,hok,hqi,hmi,hle⟩:=ha
 have hcl:=hw.hcl
 have hsk:=hw.hsk
 have hm:m<60:=by omega
 have hnx:nxI i:=⟨by omega,by omega⟩
 have hA:∀ {r:List Prop},(∀ p∈r,p)->∀ p∈plA V N n i r,p:=fun hr=>on_A hV hN hi hr
 have hmu:∀ l,l<=65536->(n - i - 1) * 200000+1+l<(n - i) * 200000:=fun l hl=>by omega
 have c8:∀ {r:List Prop},(∀ p∈r,p)->∀ p∈plA V N n i (w5 V i 5 false::w5 V i 6 false::w5 V i 7 false::(Int.ofNat (aB V i).toNat=Int.ofNat (aB V i).toNat)::(onD sk lm es c cl fe).w::r),p:=fun hr=>hA (all_cons (w5_f h5) (all_cons (w5_f h6) (all_cons (w5_f h7) (all_cons rfl (all_cons hw hr)))))
 have hmc:(n - (i+1)) * 200000<(n - i) * 200000:=by omega
 by_cases hv:vTm (aT V i)/\vTm (aN V i)
 . obtain ⟨hP,hPl⟩:=qgl (f:=shaG) (b:=aB V i) hw hv
   have hle:=qbl (aN V i) cl
   by_cases he:prE' shaG es c sk lm cl fe (aT V i) (aN V i) (aB V i)=0
   . cases mt with
     | true =>
       obtain rfl:q=0:=hnil rfl
       exact on_cn hV hN hz ⟨hw,hfl,hnil,htk,hok,hqi,hmi,by omega⟩ hi h5 h6 h7 hv he
     | false=>exact on_cr hV hN hz ⟨hw,hfl,hnil,htk,hok,hqi,hmi,by omega⟩ hi h5 h6 h7 hv he
   . have hcode:(qhi shaG V i (onD sk lm es c cl fe) != 0)=true:=by
      show (prE' shaG es c sk lm cl fe (aT V i) (aN V i) (aB V i) != 0)=true
      exact bne_iff_ne.2 he
     exact qgc (some (1,3)) 20000 (.c ⟨mt,m,prM' shaG es c sk lm cl fe (aT V i) (aN V i) (aB V i),prC' shaG es c sk lm cl fe (aT V i) (aN V i) (aB V i),clk (aN V i) cl,fe,T,q,i+1⟩) ⟨⟨hP,by show fe<=clk (aN V i) cl+sk; omega,hnil,htk,fun k hk=>(hok k hk).pres hw hv,by show q<=i+1+0; omega,by show m<=i+1; omega,hi⟩,hmc⟩
      (fun z=>qta (on_d1 shaG sk lm V N n k es c cl fe T q i J z mt) hm) (qta (no_c shaG sk lm V N n k (prM' shaG es c sk lm cl fe (aT V i) (aN V i) (aB V i)) (prC' shaG es c sk lm cl fe (aT V i) (aN V i) (aB V i)) (clk (aN V i) cl) fe T q (i+1) mt) hm)
      (c8 (all_cons (qsb hv) (all_cons hcode (all_cons hnx qca))))
 . exact qgc (some (1,3)) 20000 (.c ⟨mt,m,es,c,cl,fe,T,q,i+1⟩) ⟨⟨hw,hfl,hnil,htk,hok,by show q<=i+1+0; omega,by show m<=i+1; omega,hi⟩,hmc⟩
    (fun z=>qta (on_d0 shaG sk lm V N n k es c cl fe T q i J z mt) hm) (qta (no_c shaG sk lm V N n k es c cl fe T q (i+1) mt) hm)
    (c8 (all_cons (qfb hv) (all_cons hnx qca)))
theorem on_c (hV:qfd V n) (hN:n * 4<=N) (hz:n<=60) (hs:nwP sk lm) {s:OnS} {J:Junk} (ha:s.fit sk lm n 0):qyf sk lm V N n k (.c s) J:=by
 obtain ⟨mt,m,es,c,cl,fe,T,q,i⟩:=s
 have ha:OnFit sk lm n 0 mt m es c cl fe T q i:=ha
 by_cases hi:i<n
 . by_cases h5:aW V i=5
   . exact on_cu hV hN hz ha hi h5
   by_cases h6:aW V i=6
   . exact on_cl hV hN hz ha hi hs h5 h6
   by_cases h7:aW V i=7
   . exact on_cd hV hN hz ha hi h5 h6 h7
   . exact on_cp hV hN hz ha hi h5 h6 h7
 . have hmi:=ha.mi
   have hle:=ha.le
   have hm:m<61:=by omega
   exact qdd (js:=[]) (names:=[]) (M:=onC shaG sk lm V N n k mt m es c cl fe T q i) none 20000 (fun z=>qta (jih shaG sk lm V N n k es c cl fe T q i J z mt) hm) (all_cons (decide_eq_false (by omega)) qca) fun H _=>rfl
theorem on_a {s:OnS} {j:Nat} {J:Junk} (hz:n<=60) (ha:qit sk lm V n (.a s j)):qyf sk lm V N n k (.a s j) J:=by
 obtain ⟨mt,m,es,c,cl,fe,T,q,i⟩:=s
 obtain ⟨ha,hmt,hi,hj,hin,hnot⟩:=ha
 have ha:OnFit sk lm n 0 mt m es c cl fe T q i:=ha
 obtain ⟨hw,hfl,hnil,htk,hok,hqi,hmi,hle⟩:=ha
 have hmt:mt=false:=hmt
 subst hmt
 have hw:ChW es c sk lm cl fe:=hw
 have hfl:fe<=cl+sk:=hfl
 have htk:qfd T q:=htk
 have hok:∀ k,k<q->TkP sk es cl fe (xK shaG (aT T k) (aB T k)):=hok
 have hqi:q<=i+0:=hqi
 have hmi:m<=i:=hmi
 have hi:i<n:=hi
 have hj:j<=q:=hj
 have hin:xK shaG (aT V i) (aB V i)∈lsM es:=hin
 have hnot:∀ k,k<q->¬ (aT T k=aT V i/\aB T k=aB V i):=hnot
 have hm:m<60:=by omega
 by_cases h:j<q
 . have hf:=qhz htk h
   have hnx:nxI j:=⟨by omega,by omega⟩
   have hmu:(n - i - 1) * 200000+100000+(q - (j+1))<(n - i - 1) * 200000+100000+(q - j):=by omega
   have hok1:qit sk lm V n (.a ⟨false,m,es,c,cl,fe,T,q,i⟩ (j+1)):=⟨⟨hw,hfl,hnil,htk,hok,hqi,hmi,hle⟩,rfl,hi,h,hin,hnot⟩
   by_cases ht:aT T j=aT V i
   . have hb:aB T j≠aB V i:=fun e=>hnot j h ⟨ht,e⟩
     have hb':(((aB T j).toNat:Int) == ((aB V i).toNat:Int))=false:=beq_eq_false_iff_ne.2 fun e=>hb (BitVec.eq_of_toNat_eq (by omega))
     exact qgc (some (1,10)) 20000 (.a ⟨false,m,es,c,cl,fe,T,q,i⟩ (j+1)) ⟨hok1,hmu⟩
      (fun z=>qta (on_a1 shaG sk lm V N n k es c cl fe T q i J z j) hm) (qta (no_a shaG sk lm V N n k es c cl fe T q i (j+1)) hm)
      (all_cons (decide_eq_true (by omega)) (all_cons ⟨by omega,by omega⟩ (all_cons (by omega) (all_cons hf.2.1 (all_cons (beq_iff_eq.2 ht) (all_cons ⟨by omega,by omega⟩ (all_cons (by omega) (all_cons hf.2.2.2.1 (all_cons hb' (all_cons hnx qca))))))))))
   . exact qgc (some (1,10)) 20000 (.a ⟨false,m,es,c,cl,fe,T,q,i⟩ (j+1)) ⟨hok1,hmu⟩
      (fun z=>qta (on_a0 shaG sk lm V N n k es c cl fe T q i J z j) hm) (qta (no_a shaG sk lm V N n k es c cl fe T q i (j+1)) hm)
      (q9k (all_cons (decide_eq_true (by omega)) (all_cons ⟨by omega,by omega⟩ (all_cons (by omega) (all_cons hf.2.1 qca)))) (q9k (quc (beq_eq_false_iff_ne.2 ht) 9) (all_cons hnx qca)))
 . obtain rfl:j=q:=by omega
   have hsh:=hw.short
   refine qio (s:=⟨false,m,es,c,cl,fe,qze T j V i,j+1,i⟩) ⟨hw,hfl,fun h=>(by cases h),j8a htk,fun k hk => ?_,by show j+1<=i+1; omega,hmi,hle⟩ hi hz ?_
    (fun z=>qta (on_ae shaG sk lm V N n k es c cl fe T j i J z j) hm) (qta (no_ae shaG sk lm V N n k es c cl fe (qze T j V i) (j+1) i 0) hm) (fun e he=>by cases he)
    (all_cons (decide_eq_false (by omega)) (all_cons (Nat.le_refl 4) (all_cons (by omega) (all_cons ⟨⟨by omega,by omega⟩,q87⟩ (all_cons hw qca)))))
   . show TkP sk es cl fe (xK shaG (aT (qze T j V i) k) (aB (qze T j V i) k))
     rw [q97 shaG k hk]
     by_cases hkj:k<j
     . rw [if_pos hkj]; exact hok k hkj
     . rw [if_neg hkj]; exact .inl hin
   . show (n - i - 1) * 200000+1+es.length<(n - i - 1) * 200000+100000+(j - j)
     have h1:es.length<=65536:=hsh
     generalize es.length=e at h1 ⊢
     clear hqi hmi hle
     omega
theorem on_b {s:OnS} {j:Nat} {J:Junk} (hz:n<=60) (ha:qit sk lm V n (.b s j)):qyf sk lm V N n k (.b s j) J:=by
 obtain ⟨mt,m,es,c,cl,fe,T,q,i⟩:=s
 obtain ⟨ha,hi,hj⟩:=ha
 have ha:OnFit sk lm n 1 mt m es c cl fe T q i:=ha
 obtain ⟨hw,hfl,hnil,htk,hok,hqi,hmi,hle⟩:=ha
 have hw:ChW es c sk lm cl fe:=hw
 have hqi:q<=i+1:=hqi
 have hmi:m<=i:=hmi
 have hi:i<n:=hi
 have hj:j<=es.length:=hj
 have hm:m<60:=by omega
 have hcl:=hw.hcl
 have hsk:=hw.hsk
 unfold vTm at hcl
 have hsh:=hw.short
 by_cases h:j<es.length
 . have hl:j<(lsM es).length:=by rw [← hw.len]; exact h
   have e0:rowM (lsM es) (0+j * 33+0)=.int .i64 (lsM es)[j].1:=by rw [Nat.zero_add,Nat.add_zero]; exact (qal hl).1
   have hnr:=hw.nr _ (List.getElem_mem hl)
   exact qgc (some (2,0)) 20000 (.b ⟨mt,m,es,c,cl,fe,T,q,i⟩ (j+1)) ⟨⟨⟨hw,hfl,hnil,htk,hok,hqi,hmi,hle⟩,hi,h⟩,by show (n - i - 1) * 200000+1+(es.length - (j+1))<(n - i - 1) * 200000+1+(es.length - j); omega⟩
    (fun z=>qta (on_b1 shaG sk lm V N n k es c cl fe T q i J z j mt) hm) (qta (no_b shaG sk lm V N n k es c cl fe T q i (j+1) mt) hm)
    (all_cons (decide_eq_true (by omega)) (all_cons ⟨by omega,by omega⟩ (all_cons (by omega) (all_cons (qzy hl) (all_cons hw (all_cons ⟨by omega,by omega⟩ (all_cons (by rw [e0]; exact decide_eq_false (by show ¬ (lsM es)[j].1 > cl+sk; omega)) (all_cons hw (all_cons ⟨by omega,by omega⟩ (all_cons (by rw [e0]; exact decide_eq_false (by show ¬ (lsM es)[j].1<cl - sk; omega)) (all_cons ⟨by omega,by omega⟩ qca)))))))))))
 . obtain rfl:j=es.length:=by omega
   exact qgc (some (1,3)) 20000 (.c ⟨mt,m+1,es,c,cl,fe,T,q,i+1⟩) ⟨⟨hw,hfl,hnil,htk,hok,by show q<=i+1+0; omega,by show m+1<=i+1; omega,hi⟩,by show (n - (i+1)) * 200000<(n - i - 1) * 200000+1+(es.length - es.length); omega⟩
    (fun z=>qta (on_be shaG sk lm V N n k es c cl fe T q i J z es.length mt) hm) (qta (no_e shaG sk lm V N n k es c cl fe T q (i+1) mt) hm)
    (all_cons (decide_eq_false (by omega)) (all_cons ⟨by omega,by omega⟩ qca))
theorem jff (hV:qfd V n) (hN:n * 4<=N) (hs:nwP sk lm) (hz:n<=60):Runs (qge shaG) 4 [.int .i64 (.sym sk),.int .i64 (.sym lm),slP 4 n k] (shaH [.row (.raw V N)]) fun v _=>v=.bool (.lit true):=by
 obtain ⟨hw0,_⟩:=nw_w hs
 refine qmf qhu (onKx sk lm V N n k) (qit sk lm V n) (onMu n) (fun g nm hg=>Nat.lt_of_lt_of_le (q5q hg) (by show 3<=5; omega)) ?_ fun a ha J => ?_
 . refine qgg (ms:=[(0,10,.int .i64 (.lit 0))]) (es:=[]) (ds:=[false,true]) (some (1,3)) 20000 (.c ⟨true,0,[],0,0,-1,V,0,0⟩) ⟨hw0,by have:=hw0.hsk; show (-1:Int)<=0+sk; omega,fun _=>rfl,fun i hi=>absurd hi (Nat.not_lt_zero i),fun i hi=>absurd hi (Nat.not_lt_zero i),Nat.zero_le _,Nat.zero_le _,Nat.zero_le _⟩ (fun z=>on_i shaG sk lm V N n k V z) (no_i shaG sk lm V N n k [] 0 0 (-1) V 0 0) (fun r hr p v hp hv => ?_) (fun e he=>by cases he)
    (all_cons (decide_eq_false (by omega)) (all_cons (qsb hs) qca))
   obtain rfl:=List.mem_singleton.1 hr
   exact qnf (jkh shaG sk lm V N n k [] 0 0 (-1) V 0 0 true 0) hp hv (q9a rfl)
 . cases a with
   | c s=>exact on_c hV hN hz hs ha
   | a s j=>exact on_a hz ha
   | b s j=>exact on_b hz ha
end
theorem qc8 {ds:List Bool} {ps:List Prop} {sk lm:Int} {V:Nat->Value} {N n k:Nat} (h:outO [] (onT shaG sk lm V N n k none) ds=(ps,tru)) (hp:∀ p∈ps,p):Runs (qge shaG) 4 [.int .i64 (.sym sk),.int .i64 (.sym lm),slP 4 n k] (shaH [.row (.raw V N)]) fun v _=>v=.bool (.lit true) :=
 q5o qhu (n:=20000) (qpc (t:=qka (qge shaG) 20000 4 [.int .i64 (.sym sk),.int .i64 (.sym lm),slP 4 n k] (shaH [.row (.raw V N)])) h hp fun _ _=>rfl)
theorem qw1 {ds:List Bool} {ps:List Prop} {sk lm:Int} (h:outO [] (onZ shaG sk lm) ds=(ps,tru)) (hp:∀ p∈ps,p):Runs (qge shaG) 4 [.int .i64 (.sym sk),.int .i64 (.sym lm),.nilSlice] (shaH []) fun v _=>v=.bool (.lit true) :=
 q5o qhu (n:=20000) (qpc (t:=qka (qge shaG) 20000 4 [.int .i64 (.sym sk),.int .i64 (.sym lm),.nilSlice] (shaH [])) h hp fun _ _=>rfl)
theorem jab {sk lm:Int} {V:Nat->Value} {N n k:Nat} (hV:qfd V n) (hN:n * 4<=N):Runs (qge shaG) 4 [.int .i64 (.sym sk),.int .i64 (.sym lm),slP 4 n k] (shaH [.row (.raw V N)]) fun v _=>v=.bool (.lit true):=by
 by_cases hz:n<=60
 . by_cases hs:nwP sk lm
   . exact jff hV hN hs hz
   . exact qc8 (jjh shaG sk lm V N n k) (all_cons (decide_eq_false (by omega)) (all_cons (qfb hs) qca))
 . exact qc8 (jcf shaG sk lm V N n k) (all_cons (decide_eq_true (by omega)) qca)
theorem jgf {sk lm:Int}:Runs (qge shaG) 4 [.int .i64 (.sym sk),.int .i64 (.sym lm),.nilSlice] (shaH []) fun v _=>v=.bool (.lit true):=by
 by_cases hs:nwP sk lm
 . exact qw1 (on_z1 shaG sk lm) (all_cons (qsb hs) qca)
 . exact qw1 (on_z0 shaG sk lm) (all_cons (qfb hs) qca)
theorem once_law {w:World} {β:Val} (hH:HeapRel Tryd.prog (fun _=>False) w β (shaH []) w) (hG:GlobRel q4c β) (sk lm:Int) {a:Option Addr} {len cap:Nat} {V:Nat->Value} (hr:ActRow w a len cap V) :
  Calls Tryd.prog 4 #[.int .i64 sk,.int .i64 lm,.slice a len cap] w fun e w'=>e=.returned (.bool true)/\Below w.heap.size w w':=by
 rcases hr with ⟨rfl,rfl,rfl⟩ | ⟨x,rfl,hs,hl,hx,hV⟩
 . exact qpy hH hG (denL_cons.2 ⟨_,_,rfl,denL_cons.2 ⟨_,_,rfl,denL_cons.2 ⟨_,_,rfl,rfl,rfl⟩,rfl⟩,rfl⟩) (jgf (sk:=sk) (lm:=lm))
 . obtain ⟨β',hH',hle,hd⟩:=q77 hH hs hl hx
   exact qpy hH' (hG.mono hle) (denL_cons.2 ⟨_,_,rfl,denL_cons.2 ⟨_,_,rfl,denL_cons.2 ⟨_,_,hd,rfl,rfl⟩,rfl⟩,rfl⟩) (jab (sk:=sk) (lm:=lm) (fun i hi=>hV i (by omega)) (by omega))
end
noncomputable section
open Go.Sim
open Go.Proofs
theorem HeapRel.rows {P:Program} {W:World} {β:Val} {H:List SO} (h:∀ n e,H[n]? = some e->∃ c,e=.row c/\qix (fun _=>False) W β n c) (hb:∀ n,H.length<=n->β n=none):HeapRel P (fun _=>False) W β H W:=by
 refine ⟨⟨fun n e hn => ?_,fun n m e e' l l' hn hm ho ho' => ?_,fun n e l hn ho => ?_,⟨rfl,rfl,rfl,Nat.le_refl _,Nat.le_refl _,fun _ _ _=>rfl⟩⟩,hb⟩
 . obtain ⟨c,rfl,hc⟩:=h n e hn; exact hc
 . obtain ⟨c,rfl,hc⟩:=h n e hn; cases ho
 . obtain ⟨c,rfl,hc⟩:=h n e hn; cases ho
theorem qd8 {γ:Val} (k:IntKind):∀ T:List Nat,SV.denL γ (kx k T)=some (T.map fun n=>Value.int k (Int.ofNat n))
 | []=>rfl
 | _::T=>denL_cons.2 ⟨_,_,rfl,qd8 k T,rfl⟩
theorem qx1 {W:World} {a:Addr} {x:Value} (h:W.cell? a=some x):a.block<W.heap.size:=by
 by_cases hb:a.block<W.heap.size
 . exact hb
 . unfold World.cell? at h
   have hn:W.heap[a.block]? = none:=Array.getElem?_eq_none (by omega)
   simp only [hn] at h
   cases h
theorem qjz {W:World} {β:Val} {n:Nat} {l:Sim.Loc} {k:IntKind} {L:List Nat} (hl:β n=some l) (hc:∀ i,i<L.length->W.cell? ⟨l.blk,l.off+i,none⟩=some (.int k ((L.getD i 0:Nat):Int))):qix (fun _=>False) W β n (.lst (kx k L)):=by
 refine ⟨l,_,hl,qd8 k L,fun i x hx => ?_⟩
 rw [List.getElem?_map] at hx
 cases hi:L[i]? with
 | none=>rw [hi] at hx; cases hx
 | some t =>
   rw [hi] at hx; cases hx
   have hlt:i<L.length:=(List.getElem?_eq_some_iff.1 hi).1
   have hcell:=hc i hlt
   have e:L.getD i 0=t:=by rw [List.getD_eq_getElem?_getD,hi]; rfl
   rw [e] at hcell
   exact ⟨qx1 hcell,fun f=>f,hcell⟩
theorem qe8 {P:Program} {w:World} {name:String} {g:Nat} {t e:TypeId} {k:IntKind} {n:Nat} {L:List Nat} (hn:P.globalNamed name=some g) (hy:(P.globals[g]?).map (·.type)=some t) (ht:P.underlying t=some (.array n e)) (he:P.underlying e=some (.int k)) (hce:P.cellsOf e=1) (hct:P.cellsOf t=n)
  (h:Lib.VarReads P w name (Lib.tabData k (L.map Int.ofNat))):∀ i,i<L.length->w.cell? ⟨g,i,none⟩=some (.int k ((L.getD i 0:Nat):Int)):=by
 obtain ⟨g',t',cs,fuel,p,hg,hty,hvar,hd⟩:=h
 obtain rfl:=Option.some.inj (hn.symm.trans hg)
 obtain rfl:=Option.some.inj (hy.symm.trans hty)
 intro i hi
 have hT:Lib.TabIs P w name k (L.map Int.ofNat):=by
  unfold Lib.TabIs
  rw [hvar,← Lib.cells_of_tab ht he hce hct hd]
 have:=hT.cell hn i (by simpa using hi)
 rw [this]
 simp [List.getD_eq_getElem?_getD,List.getElem?_eq_getElem hi]
theorem jbb {P:Program} {w:World} {name:String} {g:Nat} {t e:TypeId} {k:IntKind} {l:List Nat} (hn:P.globalNamed name=some g) (hy:(P.globals[g]?).map (·.type)=some t)
  (ht:P.underlying t=some (.slice e)) (he:P.underlying e=some (.int k)) (hc:P.cellsOf e=1) (hl:0<l.length) (h:Lib.VarReads P w name (Lib.sliceData k l)) :
  ∃ R o:Nat,w.cell? ⟨g,0,none⟩=some (.slice (some ⟨R,o,none⟩) l.length l.length)/\∀ j,j<l.length->w.cell? ⟨R,o+j,none⟩=some (.int k (l.getD j 0)):=by
 obtain ⟨R,o,c,h1,h2⟩:=Lib.tabSlice_of_reads hn hy ht he hc hl h
 refine ⟨R,o,?_,h2⟩
 obtain ⟨g',t',cs,fuel,p,hg,hty,hvar,hd⟩:=h
 obtain rfl:=Option.some.inj (hn.symm.trans hg)
 obtain rfl:=Option.some.inj (hy.symm.trans hty)
 rcases DataW.trod_slice ht hd with ⟨_,hx⟩ | ⟨a,len,cap,el,rs,m,rfl,hcs,hx,_,hlc,_,hel,helem,hsp,_⟩
 . cases hx
 have e0:=congrArg Prod.fst hx
 simp only [Lib.sliceData,DataW.slice.injEq] at e0
 obtain ⟨eE,eR⟩:=e0
 have hlen:len=l.length:=by
  have:=congrArg List.length eE
  simp at this
  omega
 have hr:=(hsp rfl).1
 have hr0:rs.length=0:=by
  have:=congrArg List.length eR
  simp at this
  simp [this]
 have hcap:cap=l.length:=by omega
 have h3:w.cell? ⟨g,0,none⟩=some (.slice (some a) l.length l.length):=by
  rw [World.var?_cell hg hvar 0,← Array.getElem?_toList,hcs,hlen,hcap]
  rfl
 rw [h1] at h3
 cases h3
 exact h1
end
noncomputable section
open Go.Sim
open Go.Proofs
theorem sha_start {W:World} (hL:laidMetH Tryd.prog [("watchword/watchwordref04.constants",Rows.laid_watchword_watchwordref04_constants),("watchword/sha.start",Rows.laid_watchword_sha_start),("watchword/sha.constants",Rows.laid_watchword_sha_constants)] W) :
  ∃ β,HeapRel Tryd.prog (fun _=>False) W β (shaH []) W/\GlobRel q4c β:=by
 rw [MakeChecks.laidMetH_plain _ _ _ (by kernel_rfl)] at hL
 have e1:(Rows.laid_watchword_watchwordref04_constants:DataW Unit)=Lib.sliceData .i64 constL:=by kernel_rfl
 have e2:(Rows.laid_watchword_sha_start:DataW Unit)=Lib.tabData .u32 (startL.map Int.ofNat):=by kernel_rfl
 have e3:(Rows.laid_watchword_sha_constants:DataW Unit)=Lib.tabData .u32 (constL.map Int.ofNat):=by kernel_rfl
 rw [e1,e2,e3] at hL
 have r1:=Lib.laidMet.reads hL (n := "watchword/watchwordref04.constants") (d:=Lib.sliceData .i64 constL) (by simp)
 have r2:=Lib.laidMet.reads hL (n := "watchword/sha.start") (d:=Lib.tabData .u32 (startL.map Int.ofNat)) (by simp)
 have r3:=Lib.laidMet.reads hL (n := "watchword/sha.constants") (d:=Lib.tabData .u32 (constL.map Int.ofNat)) (by simp)
 have t2:=qe8 (g:=0) (t:=97) (e:=95) (n:=8) (by kernel_rfl) (by kernel_rfl) (by kernel_rfl) (by kernel_rfl) (by kernel_rfl) (by kernel_rfl) r2
 have t3:=qe8 (g:=2) (t:=110) (e:=95) (n:=64) (by kernel_rfl) (by kernel_rfl) (by kernel_rfl) (by kernel_rfl) (by kernel_rfl) (by kernel_rfl) r3
 obtain ⟨R,o,c1,c2⟩:=jbb (g:=1) (t:=107) (e:=3) (by kernel_rfl) (by kernel_rfl) (by kernel_rfl) (by kernel_rfl) (by kernel_rfl) (by decide) r1
 have hc64:constL.length=64:=rfl
 rw [hc64] at c1
 let β:Val:=fun n=>match n with
  | 0=>some (Sim.Loc.mk 0 0 0)
  | 1=>some (Sim.Loc.mk 2 0 0)
  | 2=>some (Sim.Loc.mk 1 0 0)
  | 3=>some (Sim.Loc.mk R o 0)
  | _=>none
 refine ⟨β,HeapRel.rows (fun n e hn => ?_) fun n hn => ?_,fun g nm hg => ?_⟩
 . match n,hn with
   | 0,hn=>cases hn; exact ⟨_,rfl,qjz (l:=Sim.Loc.mk 0 0 0) rfl fun i hi=>by rw [show (Sim.Loc.mk 0 0 0).off+i=i from Nat.zero_add i]; exact t2 i hi⟩
   | 1,hn=>cases hn; exact ⟨_,rfl,qjz (l:=Sim.Loc.mk 2 0 0) rfl fun i hi=>by rw [show (Sim.Loc.mk 2 0 0).off+i=i from Nat.zero_add i]; exact t3 i hi⟩
   | 2,hn =>
     cases hn
     refine ⟨_,rfl,Sim.Loc.mk 1 0 0,[.slice (some ⟨R,o,none⟩) 64 64],rfl,?_,fun i x hx => ?_⟩
     . show SV.denL β [.slice ⟨3,.lit 0⟩ (.lit 64) (.lit 64)]=_
       rfl
     . cases i with
       | zero =>
         cases hx
         exact ⟨qx1 c1,fun f=>f,c1⟩
       | succ i=>simp at hx
   | 3,hn=>cases hn; exact ⟨_,rfl,qjz (l:=Sim.Loc.mk R o 0) rfl fun i hi=>c2 i hi⟩
   | n+4,hn=>simp [shaH] at hn
 . match n,hn with
   | n+4,_=>rfl
   | 0,hn=>simp [shaH] at hn
   | 1,hn=>simp [shaH] at hn
   | 2,hn=>simp [shaH] at hn
   | 3,hn=>simp [shaH] at hn
 . rcases qnc (show boolC (Nat.beq g 0) (some 0) _=some nm from hg) with ⟨h1,h2⟩ | h
   . cases h2; exact ⟨_,rfl,(qzb h1).symm,rfl⟩
   . rcases qnc (show boolC (Nat.beq g 2) (some 1) _=some nm from h) with ⟨h1,h2⟩ | h
     . cases h2; exact ⟨_,rfl,(qzb h1).symm,rfl⟩
     . obtain ⟨h1,h2⟩:=qyb (show boolC (Nat.beq g 1) (some 2) none=some nm from h)
       cases h2; exact ⟨_,rfl,(qzb h1).symm,rfl⟩
end
end Go.Proofs.YthkgcljngalafaaDoor.Aes
