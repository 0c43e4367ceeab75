/-
  Texts behind one another: the symbolic simulator and what it is told of the program.
-/
import Derived.Test.YthkgcljngalafaaDoorZsNur3
import Derived.Test.YthkgcljngalafaaDoorPs7
import Derived.Test.YthkgcljngalafaaDoorPs6
namespace Go.Proofs.YthkgcljngalafaaDoor.Aes
noncomputable section
open Go.Sim
open Go.Proofs
variable {α:Type}
set_option maxRecDepth 1000000
section
variable {X:Nat->BitVec 8} {n m i:Nat}
theorem quj {k:Nat} (hi:i<=1000000):rjO k i=((k+40 * i:Nat):Int):=by
 unfold rjO
 rw [qzc,wrap_i64 ⟨by show _<=(40:Int) * _; omega,by show (40:Int) * _<=_; omega⟩]
 show (k:Int)+(40:Int) * (i:Int)=_
 omega
theorem qq7 (hi:i<=1000000):rjN i=32:=by
 unfold rjN
 rw [quj hi,quj hi]
 omega
theorem qr7 (hi:i<=1000000) {j:Nat} (hj:j<32):rjB X i j=X (40 * i+40+8+j):=by
 unfold rjB
 rw [qq7 hi,quj hi,if_pos ⟨by omega,by omega⟩]
 congr 1
 omega
theorem j0h (hi:i<=1000000):rjTm X i=nuR X (40 * i+40):=by
 unfold rjTm
 rw [quj hi]
 congr 1
 omega
theorem qs7 (hi:i<=1000000) (h:rjTm X i=bnI X (40 * i+40)):rjX X i=mkCs (mkX X i):=by
 unfold rjX mkE0 mkCs
 rw [h]
 congr 1
 rw [qja,qja]
 refine List.map_congr_left fun j hj => ?_
 rw [qya,← List.range_eq_range',List.mem_range] at hj
 rw [qr7 hi hj]
 show _=SV.int .u8 (.b8 ((dgOf _).at j))
 rw [qjc _ hj]
theorem j9e (hi:i<=1000000) (h:rjTm X i=bnI X (40 * i+40)):rjXv X i=keyC (mkX X i):=by
 unfold rjXv keyC
 rw [h]
 congr 1
 rw [qja,qja]
 refine List.map_congr_left fun j hj => ?_
 rw [qya,← List.range_eq_range',List.mem_range] at hj
 rw [qr7 hi hj]
 show _=Value.int .u8 ((((dgOf _).at j).toNat:Nat):Int)
 rw [qjc _ hj]
theorem jaf {V:Nat->Value} {k:Nat} (hV:MkV V k) {j:Nat} (hj:j<k):seeW V (0+j * 33)=mkCs (mkAt V j):=by
 obtain ⟨h1,h2⟩:=hV j hj
 have e:mapN (fun r=>SV.int .u8 (.b8 (BitVec.ofInt 8 (vNum (V (0+j * 33+(r+1))))))) (qra 32 0)=mapN (fun r=>SV.int .u8 (.b8 ((mkAt V j).2.at r))) (qra 32 0):=by
  rw [qja,qja]
  refine List.map_congr_left fun r hr => ?_
  rw [qya,← List.range_eq_range',List.mem_range] at hr
  rw [Nat.zero_add,h2 r hr]
  show SV.int .u8 (.b8 (BitVec.ofInt 8 ((((mkAt V j).2.at r).toNat:Nat):Int)))=_
  rw [qef]
 unfold seeW mkCs
 rw [e,Nat.zero_add,Nat.add_zero,h1]
 rfl
theorem jbf {V:Nat->Value} {k:Nat} (hV:MkV V k) {j:Nat} (hj:j<k):fitM V (0+j * 33):=by
 have h:=qaj hV
 have h2:fitM (rowM (mkL V k)) (0+j * 33):=qwq (by rw [qle]; exact hj)
 have e:mapN (fun r=>SV.val (V (0+j * 33+r))) (qra 33 0)=mapN (fun r=>SV.val (rowM (mkL V k) (0+j * 33+r))) (qra 33 0):=by
  rw [qja,qja]
  refine List.map_congr_left fun r hr => ?_
  rw [qya,← List.range_eq_range',List.mem_range] at hr
  rw [h _ (by omega)]
 unfold fitM at h2 ⊢
 rw [e]
 exact h2
theorem jla {V:Nat->Value} {k:Nat} (e:rjXv X i=keyC (mkX X i)):(∀ j,j<k * 33->qqm X V k i j=V j)/\∀ j,j<33->qqm X V k i (k * 33+j)=(mkC (mkX X i)).getD j undef:=by
 unfold qqm
 rw [e]
 exact j6e
theorem jma {f:Nat->Nat} (x:Mk):(Cells.lst (mkCs x)).Imp ((Cells.raw (oneX x) (1 * 33)).ren f):=by
 intro γ vs hv
 have hv:SV.denL γ (mkCs x)=some vs:=hv
 rw [quq] at hv
 cases hv
 refine ⟨q6o _,fun i y hy => ?_⟩
 have hi:i<33:=by
  have:=(List.getElem?_eq_some_iff.1 hy).1
  rw [q6o] at this; exact this
 have e2:=qaj (qqy x).1 i (by omega)
 rw [(qqy x).2] at e2
 rw [e2]
 show y=(mkC (([x][i / 33]?).getD default)).getD (i % 33) undef
 rw [show i / 33=0 by omega,show i % 33=i by omega,List.getD_eq_getElem?_getD]
 show y=((mkC x)[i]?).getD undef
 rw [hy]; rfl
theorem rj_P {c:Nat} (hn:n<=1000000) (h:n=40+40 * c) (hi:i<c) {r:List Prop} (hr:∀ p∈r,p):∀ p∈rjP X n (c:Int) i r,p:=by
 have h40:rjO 40 i=_:=quj (by omega)
 have h48:rjO 48 i=_:=quj (by omega)
 have h80:rjO 80 i=_:=quj (by omega)
 have hN:rjN i=32:=qq7 (by omega)
 have hB:=qic X
 unfold rjP
 rw [hN,h40,h48,h80]
 exact all_cons (decide_eq_true (by omega)) (all_cons ⟨by omega,by omega⟩ (all_cons hB (all_cons ⟨rfl,by omega,by omega,by omega⟩ (all_cons ⟨by omega,by omega⟩ (all_cons ⟨by omega,by omega⟩ (all_cons ⟨by omega,by omega⟩ (all_cons ⟨by omega,by omega⟩
  (all_cons (decide_eq_true (by omega)) (all_cons ⟨by omega,hB⟩ (all_cons ⟨by omega,.inl (by omega),trivial⟩ hr))))))))))
variable {sk lm cl fe:Int}
theorem qt7 {c:Nat} {G:Prop} (hn:n<=1000000) (h:n=40+40 * c) (hi:i<c) (hsk:sk=bnI X 0) (hcl:cl=bnI X 16) (hs:sk<=1048576) (hc:cl<=1099511627776) (mn:Bool) (V:Nat->Value) (k:Nat) (J:Junk)
  (g:∀ {ds:List Bool} {ps:List Prop},(∀ z,outL [] (rjC X n m mn (c:Int) sk lm cl fe V k i) rj3 (rj1 X n m mn (c:Int) sk lm cl fe V k i J none) ds z=(ps,qvs))->(∀ p∈ps,p)->¬ EntOK X i->G)
  (ok:rjTm X i=bnI X (40 * i+40)->beN X (40 * i+40) 8<=1099511627776->bnI X 16<=bnI X (40 * i+40)+bnI X 0->bnI X (40 * i+40)<=bnI X 16+bnI X 0->(∀ {r:List Prop},(∀ p∈r,p)->∀ p∈rjP3 X n (c:Int) sk cl i r,p)->G):G:=by
 have hT:rjTm X i=nuR X (40 * i+40):=j0h (by omega)
 obtain ⟨t0,t1,t2,t3⟩:=qbl X (40 * i+40)
 have h0:=qdo X 0
 have h16:=qdo X 16
 have hb:bnI X (40 * i+40)=((beN X (40 * i+40) 8:Nat):Int):=rfl
 by_cases hv:vTm (rjTm X i)
 . unfold vTm at hv
   have ht:rjTm X i=bnI X (40 * i+40):=by rw [hT]; exact t3 (by rw [← hT]; omega)
   have q1:∀ {r:List Prop},(∀ p∈r,p)->∀ p∈rjP1 X n (c:Int) sk i r,p:=fun hr=>rj_P hn h hi (all_cons (by rw [q3c (show vTm (rjTm X i) from hv)]; rfl) (all_cons ⟨by omega,by omega⟩ hr))
   by_cases hlo:rjTm X i+sk<cl
   . exact g (fun z=>rj_r2 X n m mn (c:Int) sk lm cl fe V k i J z) (q1 (q2c (decide_eq_true hlo) 9)) fun he=>by have:=he.lo; omega
   . have q2:∀ {r:List Prop},(∀ p∈r,p)->∀ p∈rjP2 X n (c:Int) sk cl i r,p:=fun hr=>q1 (all_cons (decide_eq_false hlo) (all_cons ⟨by omega,by omega⟩ hr))
     by_cases hhi:rjTm X i > cl+sk
     . exact g (fun z=>rj_r3 X n m mn (c:Int) sk lm cl fe V k i J z) (q2 (q2c (decide_eq_true hhi) 5)) fun he=>by have:=he.hi; omega
     . exact ok ht (by omega) (by omega) (by omega) fun hr=>q2 (all_cons (decide_eq_false hhi) hr)
 . exact g (fun z=>rj_r1 X n m mn (c:Int) sk lm cl fe V k i J z) (rj_P hn h hi (q2c (by rw [qtb hv]; rfl) 9)) fun he=>hv (by
    have h1:=he.tm
    have:rjTm X i=bnI X (40 * i+40):=by rw [hT]; exact t3 (by omega)
    unfold vTm
    omega)
end
inductive RjS
 | z
 | s (i:Nat) (V:Nat->Value)
section
variable (X:Nat->BitVec 8) (n m:Nat) (c:Nat) (sk lm cl fe:Int)
def rjK:RjS->Cut
 | .z=>rjC X n m true (c:Int) sk lm cl fe (fun _=>undef) 0 0
 | .s i V=>rjC X n m false (c:Int) sk lm cl fe V i i
def rjOK:RjS->Prop
 | .z=>True
 | .s i V=>0<i/\i<=c/\MkV V i/\mkL V i=lkX X i/\∀ j,j<i->EntOK X j
def rjMu:RjS->Nat
 | .z=>c+1
 | .s i _=>c - i
def rjDD (v:SV) (H:List SO):Prop:=(qcd X/\qa4 sk lm fe cl (lkX X c) 0 3 v H)\/(¬ qcd X/\v=.tuple [rnZ,.int .i64 (.lit 6)])
variable {X n m c sk lm cl fe}
theorem jna (hn:n<=1000000) (h:n=40+40 * c) (hc:cntI X=c) (hsk:sk=bnI X 0) (hcl:cl=bnI X 16) (hs:sk<=1048576) (hcb:cl<=1099511627776) (J:Junk):∀ a,rjOK X c a->qbd cfgRl 1 (rjK X n m c sk lm cl fe) (fun a'=>rjOK X c a'/\rjMu c a'<rjMu c a) (rjDD X c sk lm cl fe) ((rjK X n m c sk lm cl fe a).fill J):=by
 intro a ha
 cases a with
 | z =>
   show qbd cfgRl 1 _ _ _ ((rjC X n m true (c:Int) sk lm cl fe (fun _=>undef) 0 0).fill J)
   by_cases h0:0<c
   . refine qt7 (i:=0) (m:=m) (lm:=lm) (fe:=fe) hn h h0 hsk hcl hs hcb true (fun _=>undef) 0 J (fun {ds ps} hr hp hE => ?_) fun ht htm hlo hhi hP => ?_
     . exact q7b (js:=[]) (names:=rj3) (M:=rjC X n m true (c:Int) sk lm cl fe (fun _=>undef) 0 0) none 20000 hr hp fun H _=>.inr ⟨fun he=>hE (he 0 (by omega)),rfl⟩
     . obtain ⟨v1,v2⟩:=qqy (mkX X 0)
       refine qfg (ms:=[]) (some (1,3)) 20000 (.s 1 (oneX (mkX X 0))) ⟨⟨Nat.one_pos,h0,v1,v2,fun j hj => ?_⟩,by show c - 1<c+1; omega⟩ (fun z=>rj_r4 X n m (c:Int) sk lm cl fe (oneX (mkX X 0)) 0 0 J z) (j6c X n m (c:Int) sk lm cl fe (oneX (mkX X 0)) 1 1 [0,1,2,5] (.inl rfl)) (fun q hq=>by cases hq) (fun e he E0 hE0 => ?_) (hP (qrt (q2c (decide_eq_false (by omega)) 10) (all_cons ⟨by omega,by omega⟩ qba)))
       . obtain rfl:j=0:=by omega
         exact ⟨htm,hlo,hhi,fun k hk=>by omega⟩
       . rcases List.mem_cons.1 he with rfl | he
         . cases hE0
           exact ⟨_,rfl,fun γ vs hv=>hv⟩
         . obtain rfl:=List.mem_singleton.1 he
           cases hE0
           refine ⟨_,rfl,?_⟩
           show (Cells.lst (rjX X 0)).Imp ((Cells.raw (oneX (mkX X 0)) (1 * 33)).ren _)
           rw [qs7 (by omega) ht]
           exact jma _
   . obtain rfl:c=0:=by omega
     exact q7b (js:=[]) (names:=rj3) (M:=rjC X n m true ((0:Nat):Int) sk lm cl fe (fun _=>undef) 0 0) none 20000 (fun z=>j7e X n m ((0:Nat):Int) sk lm cl fe (fun _=>undef) 0 0 J z) (all_cons (decide_eq_false (by omega)) qba) fun H _=>.inl ⟨fun i hi=>by omega,.inl ⟨rfl,rfl⟩⟩
 | s i V =>
   obtain ⟨hi0,hic,hV,hL,hok⟩:=ha
   show qbd cfgRl 1 _ _ _ ((rjC X n m false (c:Int) sk lm cl fe V i i).fill J)
   by_cases hi:i<c
   . refine qt7 (i:=i) (m:=m) (lm:=lm) (fe:=fe) hn h hi hsk hcl hs hcb false V i J (fun {ds ps} hr hp hE => ?_) fun ht htm hlo hhi hP => ?_
     . exact q7b (js:=[]) (names:=rj3) (M:=rjC X n m false (c:Int) sk lm cl fe V i i) none 20000 hr hp fun H _=>.inr ⟨fun he=>hE (he i (by omega)),rfl⟩
     . have ei:((i:Int) - 1).toNat=i - 1:=by omega
       have eLe:rjLe X V i=cB (mkLt (mkX X (i - 1)) (mkX X i)):=by
        unfold rjLe
        rw [ei,jaf hV (by omega),qs7 (by omega) ht]
        have e1:mkAt V (i - 1)=mkX X (i - 1):=by
         have:=congrArg (fun l=>l[i - 1]?) hL
         simp only [mkL,lkX,List.getElem?_map] at this
         rw [List.getElem?_range (by omega)] at this
         exact Option.some.inj this
        rw [e1]
        show (optC (mkV (mkS _)) false fun a=>optC (mkV (mkS _)) false fun b=>cB (mkLt a b))=_
        rw [qa1]
        show (optC (mkV (mkS _)) false fun b=>cB (mkLt _ b))=_
        rw [qa1]; rfl
       have h4:∀ {b:Bool} {r:List Prop},(!rjLe X V i)=b->(∀ p∈r,p)->∀ p∈rjP4 X n (c:Int) sk cl V i i b r,p:=fun {b r} hb hr=>by
        refine hP (all_cons (decide_eq_true (by omega)) (all_cons ⟨by omega,by omega⟩ (all_cons ⟨by omega,by omega⟩ (all_cons (by rw [ei]; omega) (all_cons (by rw [ei]; exact jbf hV (by omega)) (all_cons hb hr))))))
       by_cases hlt:mkLt (mkX X (i - 1)) (mkX X i)
       . have hx:=j9e (X:=X) (i:=i) (by omega) ht
         obtain ⟨g1,g2⟩:=jla (V:=V) (k:=i) hx
         obtain ⟨g3,g4⟩:=jxe g1 g2 hV
         refine qtc (some (1,3)) 20000 (.s (i+1) (qqm X V i i)) ⟨⟨by omega,hi,g3,by rw [g4,hL,qry],fun j hj => ?_⟩,by show c - (i+1)<c - i; omega⟩ (fun z=>rj_r6 X n m (c:Int) sk lm cl fe V i i J z) (j6c X n m (c:Int) sk lm cl fe (qqm X V i i) (i+1) (i+1) [0,1,2,6] (.inr rfl))
          (h4 (by rw [eLe,q3c hlt]; rfl) (all_cons (Nat.le_refl 33) (all_cons (by omega) (all_cons ⟨⟨by omega,by omega⟩,by rw [hx]; exact fun j hj=>jka hj⟩ (all_cons ⟨by omega,by omega⟩ qba)))))
         by_cases hj':j<i
         . exact hok j hj'
         . obtain rfl:j=i:=by omega
           exact ⟨htm,hlo,hhi,fun k hk=>by subst hk; exact hlt⟩
       . refine q7b (js:=[]) (names:=rj3) (M:=rjC X n m false (c:Int) sk lm cl fe V i i) none 20000 (fun z=>rj_r5 X n m (c:Int) sk lm cl fe V i i J z) (h4 (by rw [eLe,qtb hlt]; rfl) qba) fun H _=>.inr ⟨fun he=>hlt ((he i (by omega)).lt (i - 1) (by omega)),rfl⟩
   . obtain rfl:i=c:=by omega
     refine q7b (js:=[3]) (names:=rj3) (M:=rjC X n m false (i:Int) sk lm cl fe V i i) none 20000 (fun z=>j8e X n m (i:Int) sk lm cl fe V i i J z) (all_cons (decide_eq_false (by omega)) qba) fun H hH=>.inl ⟨fun j hj=>hok j (by omega),?_⟩
     have h3:=(List.cons.inj hH).1
     exact jyh (fun h=>by have:=congrArg List.length h; rw [q8o] at this; simp at this; omega) (q8o X i).symm hV hL h3
end
end
noncomputable section
open Go.Sim
open Go.Proofs
variable {α:Type}
set_option maxRecDepth 1000000
def qff (e:Int):SV:=.tuple [rnZ,.int .i64 (.lit e)]
def rjDn (sk lm:Int):RfD:=⟨.sym sk,.sym lm,.sym 0,.sym 0,0,fun _=>undef,0,.lit 0,true⟩
def rjR (X:Nat->BitVec 8) (n base:Nat):R SumRes:=.fork (cB (qrc X n)) (.ok ⟨qff 4,[],[]⟩) (.fork (cB (qsd X n)) (.ok ⟨qff 5,[],[]⟩) (.fork (cB (HeadOK X/\qcd X))
 (rfOk (rjDn (bnI X 0) (bnI X 8)) base (bnI X 16) (bnI X 24 - 1) (lkX X (cntI X)) 0) (.ok ⟨qff 6,[],[]⟩)))
def rjSm:Summ:=fun args H base=>qad args fun v=>slZ v fun nm n=>q2f (nth H nm) fun X k=>.need (n<=k/\n<=1000000) (rjR X n base)
theorem q7z {g:Nat->Nat} {X:Nat->BitVec 8} {n k:Nat} (h:n<=k) {e:SO} (ht:Taken g (rowF X k) e):Taken g (rowF X n) e:=by
 obtain ⟨c0,hc,hf⟩:=ht
 refine ⟨c0,hc,fun β vs hv => ?_⟩
 obtain ⟨q,hq,hx⟩:=hf β vs hv
 have hq:(vs.take q).length=k:=hq
 have hnq:n<=q:=by rw [List.length_take] at hq; omega
 have hl:(vs.take n).length=n:=by rw [List.length_take] at hq ⊢; omega
 refine ⟨n,hl,fun i x hi=>hx i x ?_⟩
 have hin:i<n:=by
  have:=(List.getElem?_eq_some_iff.1 hi).1
  omega
 rw [List.getElem?_take,if_pos hin] at hi
 rw [List.getElem?_take,if_pos (by omega)]
 exact hi
def qcl (X:Nat->BitVec 8) (n m:Nat) (D:SV->List SO->Prop):Prop:=Runs cfgRl 9 [.slice ⟨0,.lit 0⟩ (.sym n) (.sym m)] [rowF X n] D
theorem qhi {X:Nat->BitVec 8} {n m:Nat} {ds:List Bool} {ps:List Prop} {e:Int} (h:outO [] (rjT X n m none) ds=(ps,rjE e)) (hp:∀ p∈ps,p):qcl X n m fun v _=>v=qff e :=
 q8i q0t (n:=20000) (q2b (t:=qfa cfgRl 20000 9 [.slice ⟨0,.lit 0⟩ (.sym n) (.sym m)] [rowF X n]) h hp fun _ _=>rfl)
theorem jcf {X:Nat->BitVec 8} {n m:Nat} (hz:n<=1000000) :
  (qrc X n/\qcl X n m fun v _=>v=qff 4)\/(¬ qrc X n/\qsd X n/\qcl X n m fun v _=>v=qff 5)\/(¬ qrc X n/\¬ qsd X n/\¬ HeadOK X/\qcl X n m fun v _=>v=qff 6) \/
  (¬ qrc X n/\¬ qsd X n/\HeadOK X/\qcl X n m (rjDD X (cntI X) (bnI X 0) (bnI X 8) (bnI X 16) (bnI X 24 - 1))):=by
 have hI:=qic X
 obtain ⟨c0,c1,c2,c3⟩:=qbl X 32
 obtain ⟨a0,a1,a2,a3⟩:=qbl X 0
 obtain ⟨b0,b1,b2,b3⟩:=qbl X 8
 obtain ⟨d0,d1,d2,d3⟩:=qbl X 16
 obtain ⟨f0,f1,f2,f3⟩:=qbl X 24
 have hb:∀ o,bnI X o=((beN X o 8:Nat):Int):=fun o=>rfl
 have hc:bnI X 32=((cntI X:Nat):Int):=rfl
 have nd:∀ {a:Int},0<=a->a+8<=(n:Int)->nrNd n a:=fun h1 h2=>⟨rfl,by omega,h1,h2⟩
 by_cases hn:n<40
 . exact .inl ⟨.inl hn,qhi (rj_a X n m) (all_cons (decide_eq_true (by omega)) qba)⟩
 have qA:∀ {r:List Prop},(∀ p∈r,p)->∀ p∈rjhA X n r,p:=fun hr=>all_cons (decide_eq_false (by omega)) (all_cons hI (all_cons (nd (by omega) (by omega)) hr))
 by_cases hbig:nuR X 32 > 4294967296
 . exact .inl ⟨.inr (by omega),qhi (rj_b X n m) (qA (q2c (decide_eq_true hbig) 7))⟩
 have hcn:nuR X 32=((cntI X:Nat):Int):=(c3 (by omega)).trans hc
 have hW:rjW X=((40+40 * cntI X:Nat):Int):=by
  unfold rjW
  rw [hcn,qzc,wrap_i64 ⟨by show _<=(40:Int) * _; omega,by show (40:Int) * _<=_; omega⟩]
  show (40:Int)+(40:Int) * _=_
  omega
 have iW:qpa (rjW X):=by rw [hW]; exact ⟨by omega,by omega⟩
 have qB:∀ {r:List Prop},(∀ p∈r,p)->∀ p∈rjhB X n r,p:=fun hr=>qA (all_cons (decide_eq_false hbig) (all_cons iW hr))
 by_cases hs:(n:Int)<rjW X
 . exact .inl ⟨.inr (by omega),qhi (rj_c X n m) (qB (all_cons (decide_eq_true hs) qba))⟩
 have hns:¬ qrc X n:=by
  rintro (h | h)
  . omega
  . omega
 have qC:∀ {r:List Prop},(∀ p∈r,p)->∀ p∈rjhC X n r,p:=fun hr=>qB (all_cons (decide_eq_false hs) (all_cons iW hr))
 by_cases hl:(n:Int) > rjW X
 . exact .inr (.inl ⟨hns,by unfold qsd; omega,qhi (rj_d X n m) (qC (all_cons (decide_eq_true hl) qba))⟩)
 have hnl:¬ qsd X n:=by unfold qsd; omega
 refine .inr (.inr ?_)
 have qD:∀ {r:List Prop},(∀ p∈r,p)->∀ p∈rjhD X n r,p:=fun hr=>qC (all_cons (decide_eq_false hl) (all_cons hI (all_cons (nd (by omega) (by omega)) (all_cons hI (all_cons (nd (by omega) (by omega)) hr)))))
 by_cases hw:nwP (nuR X 0) (nuR X 8)
 . have qE:∀ {r:List Prop},(∀ p∈r,p)->∀ p∈rjhE X n r,p:=fun hr=>qD (all_cons (q3c hw) hr)
   obtain ⟨⟨w1,w2⟩,w3,w4⟩:=hw
   have e0:=a3 (by omega)
   have e8:=b3 (by omega)
   by_cases hf:nuR X 32 > nuR X 8
   . exact .inl ⟨hns,hnl,fun h=>by have:=h.cn; have:=hb 8; omega,qhi (rj_f X n m) (qE (all_cons (decide_eq_true hf) qba))⟩
   have qF:∀ {r:List Prop},(∀ p∈r,p)->∀ p∈rjhF X n r,p:=fun hr=>qE (all_cons (decide_eq_false hf) (all_cons hI (all_cons (nd (by omega) (by omega)) (all_cons hI (all_cons (nd (by omega) (by omega)) (all_cons ⟨by omega,by omega⟩ hr))))))
   by_cases hv:vTm (nuR X 16)
   . have qG:∀ {r:List Prop},(∀ p∈r,p)->∀ p∈rjhG X n r,p:=fun hr=>qF (all_cons (by rw [q3c hv]; rfl) hr)
     unfold vTm at hv
     have e16:=d3 (by omega)
     by_cases hh:nuR X 24 - 1 > 1099512676352
     . exact .inl ⟨hns,hnl,fun h=>by have:=h.fe; have:=hb 24; omega,qhi (rj_h X n m) (qG (all_cons (decide_eq_true hh) qba))⟩
     . have e24:=f3 (by omega)
       have k0:=hb 0
       have k8:=hb 8
       have k16:=hb 16
       have k24:=hb 24
       have hH:HeadOK X:=⟨by omega,by omega,by omega,by omega,by omega,by omega⟩
       refine .inr ⟨hns,hnl,hH,?_⟩
       have hr:=fun z=>rj_i X n m (fun _=>undef) z
       rw [hcn,e0,e8,e16,e24] at hr
       refine quc q0t (rjK X n m (cntI X) (bnI X 0) (bnI X 8) (bnI X 16) (bnI X 24 - 1)) (rjOK X (cntI X)) (rjMu (cntI X)) (fun g nm hg=>by cases hg) ?_ fun a ha J=>jna (by omega) (by omega) rfl rfl rfl (by omega) (by omega) J a ha
       refine qwc (es:=[]) (some (1,3)) 20000 .z trivial hr (rj_n0 X n m _ _ _ _ _ _ 0 0) (fun q hq p v hp hv => ?_) (fun e he=>by cases he) (qG (all_cons (decide_eq_false hh) qba))
       obtain rfl:=List.mem_singleton.1 hq
       exact qtd (jzh X n m true ((cntI X:Nat):Int) (bnI X 0) (bnI X 8) (bnI X 16) (bnI X 24 - 1) (fun _=>undef) 0 0) hp hv (qza rfl)
   . exact .inl ⟨hns,hnl,fun h=>hv (by have:=h.cl; have:=hb 16; unfold vTm; omega),qhi (rj_g X n m) (qF (q2c (by rw [qtb hv]; rfl) 4))⟩
 . exact .inl ⟨hns,hnl,fun h=>hw ⟨by have:=h.sk; have:=hb 0; omega,by have:=h.lo; have:=h.hi; have:=hb 8; omega⟩,qhi (rj_e X n m) (qD (all_cons (qtb hw) qba))⟩
theorem rjOKs:qdb Tryd.prog 9 rjSm:=by
 intro glob O w0 β H w base args vs hH hG ha
 refine qob fun v hv=>qzt fun nm n hs=>qid fun X k hX => ?_
 rintro ⟨hk,hz⟩
 rw [hv] at ha
 obtain ⟨x,xs,hx,hxs,rfl⟩:=denL_cons.1 ha
 rw [denL_nil] at hxs; subst hxs
 obtain ⟨m,hm⟩:=hs β x hx
 have hF:(Ifc.mk [nm] [rowF X n] [.slice ⟨0,.lit 0⟩ (.sym n) (.sym m)]).FitsQ H:=by
  refine Ifc.fitsQ (by simp) rfl ⟨⟨?_,fun _=>rfl⟩,trivial⟩
  obtain ⟨e,he,hq⟩:=hX (Ifc.big ⟨[nm],[rowF X n],[.slice ⟨0,.lit 0⟩ (.sym n) (.sym m)]⟩)
  rw [qca] at he
  exact ⟨e,he,q7z hk hq⟩
 have hA:SV.denL β (SV.renL (Ifc.mk [nm] [rowF X n] [.slice ⟨0,.lit 0⟩ (.sym n) (.sym m)]).big [.slice ⟨0,.lit 0⟩ (.sym n) (.sym m)])=some [x]:=denL_cons.2 ⟨x,[],hm,rfl,rfl⟩
 have go:∀ {e:Int},(qcl X n m fun v _=>v=qff e)->SumSem Tryd.prog H β w base 9 [x] ⟨qff e,[],[]⟩:=fun {e} hr =>
  qxc (c:=cfgRl) hH ⟨[nm],[rowF X n],[.slice ⟨0,.lit 0⟩ (.sym n) (.sym m)]⟩ (by intro g j hg; cases hg) hA hF [] (by simp) (by simp) (qlb hr fun v H2 h=>by
   subst h
   exact ⟨.refl _,rfl,trivial,trivial⟩)
 have h:=jcf (X:=X) (n:=n) (m:=m) hz
 refine ⟨fun h1 => ?_,fun h1=>⟨fun h2 => ?_,fun h2=>⟨fun h3 => ?_,fun h3 => ?_⟩⟩⟩
 . have h1:=cBi.1 h1
   rcases h with ⟨_,h⟩ | ⟨h,_⟩ | ⟨h,_⟩ | ⟨h,_⟩
   . exact go h
   all_goals exact absurd h1 h
 . have h1:=cB_f h1
   have h2:=cBi.1 h2
   rcases h with ⟨h,_⟩ | ⟨_,_,h⟩ | ⟨_,h,_⟩ | ⟨_,h,_⟩
   . exact absurd h h1
   . exact go h
   all_goals exact absurd h2 h
 . have h1:=cB_f h1
   have h2:=cB_f h2
   obtain ⟨h3,h4⟩:=cBi.1 h3
   rcases h with ⟨h,_⟩ | ⟨_,h,_⟩ | ⟨_,_,h,_⟩ | ⟨_,_,_,h⟩
   . exact absurd h h1
   . exact absurd h h2
   . exact absurd h3 h
   . refine j4e (I:=⟨[nm],[rowF X n],[.slice ⟨0,.lit 0⟩ (.sym n) (.sym m)]⟩) rfl hH (by intro g j hg; cases hg) hA hF rfl (qlb h fun v H2 h=>⟨3,by show 1<=3; omega,?_⟩)
     rcases h with ⟨_,h⟩ | ⟨h,_⟩
     . exact h
     . exact absurd h4 h
 . have h1:=cB_f h1
   have h2:=cB_f h2
   have h3:=cB_f h3
   rcases h with ⟨h,_⟩ | ⟨_,h,_⟩ | ⟨_,_,_,h⟩ | ⟨_,_,h4,h⟩
   . exact absurd h h1
   . exact absurd h h2
   . exact go h
   . refine go (qlb h fun v H2 h => ?_)
     rcases h with ⟨h,_⟩ | ⟨_,h⟩
     . exact absurd ⟨h4,h⟩ h3
     . exact h
end
noncomputable section
open Go.Sim
open Go.Proofs
variable {α:Type}
set_option maxRecDepth 1000000
theorem qu7 (X:Nat->BitVec 8) (o:Nat):∀ {k r:Nat},r<k->beN X o k / 256 ^ (k - 1 - r) % 256=(X (o+r)).toNat
 | 0,_,h=>by omega
 | k+1,r,h=>by
   have hx:=(X (o+k)).isLt
   rw [beN]
   by_cases hr:r=k
   . subst hr
     rw [show r+1 - 1 - r=0 by omega,Nat.pow_zero,Nat.div_one]
     omega
   . rw [show k+1 - 1 - r=(k - 1 - r)+1 by omega,Nat.pow_succ,Nat.mul_comm (256 ^ _) 256,← Nat.div_div_eq_div_mul,show (256 * beN X o k+(X (o+k)).toNat) / 256=beN X o k by omega]
     exact qu7 X o (by omega)
theorem qc1 (X:Nat->BitVec 8) (o:Nat) {r:Nat} (hr:r<8):be8 (BitVec.ofInt 64 (bnI X o)) r=X (o+r):=by
 apply BitVec.eq_of_toNat_eq
 rw [j1e]
 have h:=qu7 X o (k:=8) hr
 have hl:=qal X o 8
 have e:(BitVec.ofInt 64 (bnI X o)).toNat=beN X o 8:=by
  rw [BitVec.toNat_ofInt]
  unfold bnI
  omega
 rw [e,← h]
 have:∀ s:Nat,s<=7->2 ^ (56 - 8 * s)=256 ^ (8 - 1 - s):=fun s hs=>by
  rw [show (256:Nat)=2 ^ 8 by decide,← Nat.pow_mul]
  congr 1
  omega
 rw [this r (by omega)]
section
variable {X:Nat->BitVec 8}
def qxy (X:Nat->BitVec 8):Nat->BitVec 8:=imX (esX X (cntI X)) (bnI X 0) (bnI X 8) (bnI X 16) (bnI X 24 - 1)
theorem joa (hh:HeadOK X) (he:qcd X):∀ j,j<40+40 * cntI X->qxy X j=X j:=fun j hj=>by
 obtain ⟨hw,hl⟩:=j3c hh he
 unfold qxy imX
 rw [hl]
 by_cases h40:j<40
 . have hq:j / 8<5:=by omega
   have hr:j % 8<8:=by omega
   have e:j=8 * (j / 8)+j % 8:=by omega
   rw [e,qoy _ _ hq hr]
   have eL:(imL (esX X (cntI X)) (bnI X 0) (bnI X 8) (bnI X 16) (bnI X 24 - 1)).getD (j / 8) 0=bnI X (8 * (j / 8)):=by
    have e24:bnI X 24 - 1+1=bnI X 24:=by omega
    have e32:((esX X (cntI X)).length:Int)=bnI X 32:=by rw [qyt]; rfl
    rcases (show j / 8=0\/j / 8=1\/j / 8=2\/j / 8=3\/j / 8=4 by omega) with h | h | h | h | h <;> rw [h]
    . rfl
    . rfl
    . rfl
    . exact e24
    . exact e32
   rw [eL]
   exact qc1 X _ hr
 . have hlen:(lkX X (cntI X)).length=cntI X:=q8o X _
   have hi:(j - 40) / 40<(lkX X (cntI X)).length:=by omega
   have hg:(lkX X (cntI X))[(j - 40) / 40]=mkX X ((j - 40) / 40):=by simp [lkX]
   by_cases h8:(j - 40) % 40<8
   . have e:j=40+40 * ((j - 40) / 40)+(j - 40) % 40:=by omega
     have:=qwt (imL (esX X (cntI X)) (bnI X 0) (bnI X 8) (bnI X 16) (bnI X 24 - 1)) hi h8
     rw [← e] at this
     rw [this,hg]
     show be8 (BitVec.ofInt 64 (bnI X (40 * ((j - 40) / 40)+40))) _=_
     rw [qc1 X _ h8]
     congr 1
     omega
   . have h32:(j - 40) % 40 - 8<32:=by omega
     have e:j=40+40 * ((j - 40) / 40)+(8+((j - 40) % 40 - 8)):=by omega
     have:=qxt (imL (esX X (cntI X)) (bnI X 0) (bnI X 8) (bnI X 16) (bnI X 24 - 1)) hi h32
     rw [← e] at this
     rw [this,hg]
     show (dgOf _).at _=_
     rw [qjc _ h32]
     congr 1
     omega
end
end
noncomputable section
open Go.Sim
open Go.Proofs
variable {α:Type}
set_option maxRecDepth 1000000
section
variable {l:List Mk} {sk lm cl fe t now:Int} {d:Dg}
end
end
noncomputable section
open Go.Sim
open Go.Proofs
variable {α:Type}
set_option maxRecDepth 1000000
section
variable (W:Nat->Value) (n:Nat) (sk lm cl fe now:Int)
end
end
noncomputable section
open Go.Sim
open Go.Proofs
variable {α:Type}
set_option maxRecDepth 1000000
def dq (v:Int) (k:Nat):Int:=Nat.rec (motive:=fun _=>Int) v (fun _ x=>IntKind.i64.wrap (x.tdiv 256)) k
def eiB (v:Int) (i:Nat):BitVec 8:=BitVec.ofInt 8 ((dq v (7 - i)).tmod 256)
def eiT (v:Int):Tree:=qfa cfgP0 20000 47 [.int .i64 (.sym v)] []
theorem j1h (v:Int):outO [0] (eiT v) []=([],some (.slice ⟨0,.lit 0⟩ (.lit 8) (.lit 8),[some (.own (.lst (mapN (fun i=>.int .u8 (.b8 (eiB v i))) (qra 8 0))) true 5)])):=by kernel_rfl
theorem qv7 {n:Nat} (h:n<9223372036854775808):∀ k,dq (n:Int) k=((n / 2 ^ (8 * k):Nat):Int)
 | 0=>by
   show (n:Int)=((n / 1:Nat):Int)
   rw [Nat.div_one]
 | k+1=>by
   show IntKind.i64.wrap ((dq (n:Int) k).tdiv 256)=_
   rw [qv7 h k]
   have e:(((n / 2 ^ (8 * k):Nat):Int)).tdiv 256=((n / 2 ^ (8 * k) / 256:Nat):Int):=rfl
   rw [e,Nat.div_div_eq_div_mul,show 2 ^ (8 * k) * 256=2 ^ (8 * (k+1)) by rw [show 8 * (k+1)=8 * k+8 by omega,Nat.pow_add]]
   have:=Nat.div_le_self n (2 ^ (8 * (k+1)))
   generalize n / 2 ^ (8 * (k+1))=r at *
   exact wrap_i64 ⟨by omega,by omega⟩
theorem j2h {v:Int} (h0:0<=v) (h:v<9223372036854775808) {i:Nat} (hi:i<8):eiB v i=be8 (BitVec.ofInt 64 v) i:=by
 obtain ⟨n,rfl⟩:=Int.eq_ofNat_of_zero_le h0
 have hn:n<9223372036854775808:=by omega
 unfold eiB be8
 rw [qv7 hn]
 apply BitVec.eq_of_toNat_eq
 have e2:(BitVec.ofInt 64 (n:Int)).toNat=n:=by
  rw [BitVec.toNat_ofInt]
  omega
 rw [BitVec.toNat_setWidth,BitVec.toNat_ushiftRight,e2,Nat.shiftRight_eq_div_pow,show 56 - 8 * i=8 * (7 - i) by omega]
 generalize n / 2 ^ (8 * (7 - i))=q
 have e3:((q:Nat):Int).tmod 256=((q % 256:Nat):Int):=rfl
 rw [e3,BitVec.toNat_ofInt]
 omega
def eiL (v:Int):List SV:=mapN (fun i=>.int .u8 (.b8 (eiB v i))) (qra 8 0)
theorem jdf (v:Int) (g:Nat->Nat):(Cells.lst (eiL v)).ren g=.lst ((List.range 8).map fun i=>SV.int .u8 (.b8 (eiB v i))):=by kernel_rfl
theorem qd1 (v:Int) (γ:Val):∀ l:List Nat,SV.denL γ (l.map fun i=>SV.int .u8 (.b8 (eiB v i)))=some (l.map fun i=>vB (eiB v i))
 | []=>rfl
 | _::l=>denL_cons.2 ⟨_,_,rfl,qd1 v γ l,rfl⟩
theorem jef {v:Int} (h0:0<=v) (h1:v<9223372036854775808) (g:Nat->Nat):((Cells.lst (eiL v)).ren g).Imp (.fn (qna (be8 (BitVec.ofInt 64 v))) 8):=by
 rw [jdf]
 intro γ ws hw
 have hw:SV.denL γ ((List.range 8).map fun i=>SV.int .u8 (.b8 (eiB v i)))=some ws:=hw
 rw [qd1] at hw
 have hw:=Option.some.inj hw
 subst hw
 refine ⟨by rw [List.length_map,List.length_range],fun i x hx => ?_⟩
 rw [List.getElem?_map,Option.map_eq_some_iff] at hx
 obtain ⟨j,hj,rfl⟩:=hx
 obtain ⟨hlt,rfl⟩:i<8/\i=j:=by
  obtain ⟨h,he⟩:=List.getElem?_eq_some_iff.1 hj
  rw [List.length_range] at h
  rw [List.getElem_range] at he
  exact ⟨h,he⟩
 rw [j2h h0 h1 hlt]; rfl
theorem jff (v:Int) (p:Nat->Bool):SV.usesL p (eiL v)=true:=by kernel_rfl
def eiSm:Summ:=fun args _ base=>qad args fun n=>optC (i64V n) (.stuck 7994) fun v=>.need (0<=v.den/\v.den<9223372036854775808) (.ok ⟨.slice ⟨base,.lit 0⟩ (.lit 8) (.lit 8),[],[.own (.fn (qna (be8 (BitVec.ofInt 64 v.den))) 8) true 5]⟩)
set_option maxHeartbeats 4000000 in
theorem eiOK:qdb Tryd.prog 47 eiSm:=by
 intro glob O w0 β H w base args vs hH hG ha
 refine qob fun n hv=>qka fun v hn => ?_
 rw [hv,qgi hn] at ha
 rintro ⟨h0,h1⟩
 have hg:∀ {H2:List SO},H2[0]? = some (.own (.lst (eiL v.den)) true 5)->∀ p g,qgd p g H2[0]? (.own (.fn (qna (be8 (BitVec.ofInt 64 v.den))) 8) true 5):=fun {H2} h p g =>
  .inl ⟨_,_,_,_,h,(show SV.usesL p (eiL v.den)=true from jff v.den p),jef h0 h1 g,rfl⟩
 refine qqc cfgP0OK 20000 hH ⟨[],[],[.int .i64 (.sym v.den)]⟩ (by intro g j hg; cases hg) (qla (qza rfl) q3b _ _ ha) (Ifc.fitsQ (by simp) rfl trivial) [0] (by simp) (by simp) (q2b (j1h v.den) qba fun H2 hH2=>⟨?_,by show (Ifc.seen _ [0] 0 && true)=true; rw [qhw]; rfl,trivial,⟨hg (List.cons.inj hH2).1 _ _,trivial⟩⟩)
 show SV.Imp (.slice ⟨Ifc.out _ base [0] 0,.lit 0⟩ (.lit 8) (.lit 8)) _
 rw [out1 (Nat.zero_le 0)]
 exact .refl _
end
noncomputable section
open Go.Sim
open Go.Proofs
variable {α:Type}
set_option maxRecDepth 1000000
def cfgEi:Cfg:=qbg (qkc [(47,eiSm)])
theorem qe1:CfgOK cfgEi:=qjd (all1 eiOK)
def riB (X:Nat->BitVec 8) (k:Nat):SO:=.own (.fn (qna X) k) false 5
def n64 (x:Int):BitVec 64:=BitVec.ofInt 64 x
def riX1 (X:Nat->BitVec 8) (k:Nat) (x:Int):Nat->BitVec 8:=catB (fun j=>X (0+j)) k fun j=>be8 (n64 x) (0+j)
def riX2 (X:Nat->BitVec 8) (k:Nat) (W:Nat->Value) (o:Nat):Nat->BitVec 8:=catB (fun j=>riX1 X k (vNum (W (o+0))) (0+j)) (k+8) fun j=>BitVec.ofInt 8 (vNum (W (o+1+0+j)))
section
variable (W:Nat->Value) (n:Nat) (sk lm cl fe:Int) (X:Nat->BitVec 8) (i k:Nat) (J:Junk) (z:Nat->Nat->Nat)
def riT (st:Option (Nat × Nat)):Tree:=qfa (cfgEi.at st) 20000 32 [rfA sk lm cl fe (rfL 0 n)] [rfW W n]
def riN:Tree:=qfa cfgEi 20000 32 [rfA sk lm cl fe .nilSlice] []
def riF:List SP:=qqd (qpd (riT W n sk lm cl fe (some (1,0))) []).frames [[(1,.ptr ⟨1,.lit 0⟩),(2,.nilSlice),(3,.slice ⟨2,.lit 0⟩ (.sym k) (.rest 2 0)),(4,.int .i64 (.sym i))]]
def riC:Cut:=⟨riF W n sk lm cl fe i k,[.ent (rfW W n),.ent (rfB sk lm cl fe (rfL 0 n)),.ent (riB X k)]⟩
def ri1 (st:Option (Nat × Nat)):Tree:=sim1 (cfgEi.at st) 20000 ((riC W n sk lm cl fe X i k).fill J)
def posI (x:Int):Prop:=0<=x/\x<9223372036854775808
def riP (m:Int):List Prop:=[posI sk,posI lm,8<=8,8<=8,posI cl,qpa (fe+1),posI (fe+1),8<=8,8<=8,posI m,8<=8]
def eiC (x:Int):List SV:=mapN (fun j=>.int .u8 (.b8 (be8 (n64 x) j))) (qra 8 0)
def riH (m:Int):List SV:=app (app (app (eiC sk) (eiC lm)) (app (eiC cl) (eiC (fe+1)))) (eiC m)
def rn3:List Nat:=[0,1,10]
def rn5:List Nat:=[0,1,5]
theorem j3h:outL [9] (riC W n sk lm cl fe X i k) n3 (riN sk lm cl fe) [] z=([posI sk,posI lm,8<=8,8<=8,posI cl,qpa (fe+1),posI (fe+1),8<=8,8<=8,posI 0,8<=8],some (.inl (.slice ⟨9,.lit 0⟩ (.lit 40) (.rest 9 0),[some (.own (.lst (riH sk lm cl fe 0)) false 5)]))):=by kernel_rfl
theorem jgf:outL [] (riC W n sk lm cl fe X 0 40) rn3 (riT W n sk lm cl fe (some (1,0))) [] z=(riP sk lm cl fe (n:Int),some (.inr (qeb [(0,4,.int .i64 (.lit 0)),(0,3,.slice ⟨10,.lit 0⟩ (.lit 40) (.rest 10 0))] [(2,.ent (.own (.lst (riH sk lm cl fe (n:Int))) false 5))] (qqa rn3 11 (riC W n sk lm cl fe X 0 40))))):=by kernel_rfl
def riQ (o:Nat):List Prop:=[decide ((i:Int)<(n:Int))=true,ixP i n,o+0<n * 33,fitK (.i .i64) (W (o+0)),posI (vNum (W (o+0))),8<=8/\IsB (qna (be8 (n64 (vNum (W (o+0)))))),0+k<=k/\IsB (qna X),((k+8) * 1<140737488355328/\k+8<140737488355328)/\1=1,ixP i n,o+1+0+32<=n * 33/\∀ j,j<32->fitK (.i .u8) (W (o+1+0+j)),0+(k+8)<=k+8/\IsB (qna (riX1 X k (vNum (W (o+0))))),((k+8+32) * 1<140737488355328/\k+8+32<140737488355328)/\1=1,nxI i]
theorem jhf:outL [] (riC W n sk lm cl fe X i k) rn5 (ri1 W n sk lm cl fe X i k J (some (1,0))) [true] z=(riQ W n X i k (0+i * 33),some (.inr (qqa rn5 6 (riC W n sk lm cl fe (riX2 X k W (0+i * 33)) (i+1) (k+8+32))))):=by kernel_rfl
theorem j4h:outL [2] (riC W n sk lm cl fe X i k) n3 (ri1 W n sk lm cl fe X i k J none) [false] z=([decide ((i:Int)<(n:Int))=false],some (.inl (.slice ⟨2,.lit 0⟩ (.sym k) (.rest 2 0),[some (riB X k)]))):=by kernel_rfl
theorem jif:(((riC W n sk lm cl fe X i k).frames[0]?).bind fun p=>p.tmps[3]?)=some (some (.slice ⟨2,.lit 0⟩ (.sym k) (.rest 2 0))):=by kernel_rfl
theorem jjf:(((riC W n sk lm cl fe X i k).frames[0]?).bind fun p=>p.tmps[4]?)=some (some (.int .i64 (.sym (i:Int)))):=by kernel_rfl
theorem ri_n3 (Y:Nat->BitVec 8) (r s:Nat):boolC (q5a 1 rn3 (riC W n sk lm cl fe Y r s) (riC W n sk lm cl fe X i k)) (allN qwa (riC W n sk lm cl fe X i k).heap) false=true:=by kernel_rfl
theorem ri_n5 (Y:Nat->BitVec 8) (r s:Nat):boolC (q5a 1 rn5 (riC W n sk lm cl fe Y r s) (riC W n sk lm cl fe X i k)) (allN qwa (riC W n sk lm cl fe X i k).heap) false=true:=by kernel_rfl
end
end
noncomputable section
open Go.Sim
open Go.Proofs
variable {α:Type}
set_option maxRecDepth 1000000
def riNs (sk lm cl fe:Int) (l:List Mk):List Int:=[sk,lm,cl,fe+1,(l.length:Int)]
def riX (sk lm cl fe:Int) (l:List Mk):Nat->BitVec 8:=imgB (riNs sk lm cl fe l) l
theorem j5h (sk lm cl fe m:Int):riH sk lm cl fe m=(List.range 40).map fun t=>SV.int .u8 (.b8 (be8 (n64 ([sk,lm,cl,fe+1,m].getD (t / 8) 0)) (t % 8))):=by kernel_rfl
theorem jkf (sk lm cl fe m:Int) (g:Nat->Nat):(Cells.lst (riH sk lm cl fe m)).ren g=.lst (riH sk lm cl fe m):=by kernel_rfl
theorem jpa (sk lm cl fe m:Int) (p:Nat->Bool):SV.usesL p (riH sk lm cl fe m)=true:=by kernel_rfl
theorem bytes_den (γ:Val) (f:Nat->BitVec 8):∀ l:List Nat,SV.denL γ (l.map fun i=>SV.int .u8 (.b8 (f i)))=some (l.map fun i=>vB (f i))
 | []=>rfl
 | _::l=>denL_cons.2 ⟨_,_,rfl,bytes_den γ f l,rfl⟩
theorem qw7 {f X:Nat->BitVec 8} {n:Nat} (h:∀ t,t<n->f t=X t):(Cells.lst ((List.range n).map fun i=>SV.int .u8 (.b8 (f i)))).Imp (.fn (qna X) n):=by
 intro γ ws hw
 have hw:SV.denL γ ((List.range n).map fun i=>SV.int .u8 (.b8 (f i)))=some ws:=hw
 rw [bytes_den] at hw
 have hw:=Option.some.inj hw
 subst hw
 refine ⟨by rw [List.length_map,List.length_range],fun i x hx => ?_⟩
 rw [List.getElem?_map,Option.map_eq_some_iff] at hx
 obtain ⟨j,hj,rfl⟩:=hx
 obtain ⟨hlt,rfl⟩:i<n/\i=j:=by
  obtain ⟨h,he⟩:=List.getElem?_eq_some_iff.1 hj
  rw [List.length_range] at h
  rw [List.getElem_range] at he
  exact ⟨h,he⟩
 rw [h i hlt]; rfl
theorem jlf {f X:Nat->BitVec 8} {n:Nat} (h:∀ t,t<n->f t=X t):(Cells.fn (qna f) n).Imp (.fn (qna X) n):=by
 intro γ ws ⟨h1,h2⟩
 refine ⟨h1,fun i x hx => ?_⟩
 have hi:i<n:=by
  have:=(List.getElem?_eq_some_iff.1 hx).1
  omega
 have:=h2 i x hx
 show (SV.int .u8 (.b8 (X i))).den γ=some x
 rw [← h i hi]; exact this
theorem qf1 (sk lm cl fe:Int) (l:List Mk):(Cells.lst (riH sk lm cl fe (l.length:Int))).Imp (.fn (qna (riX sk lm cl fe l)) 40):=by
 rw [j5h]
 refine qw7 fun t ht => ?_
 unfold riX imgB
 rw [if_pos ht]; rfl
section
variable (l:List Mk) (sk lm cl fe:Int)
def riK (a:Nat × (Nat->BitVec 8)):Cut:=riC (rowM l) l.length sk lm cl fe a.2 a.1 (40+40 * a.1)
def riOK (a:Nat × (Nat->BitVec 8)):Prop:=a.1<=l.length/\∀ t,t<40+40 * a.1->a.2 t=riX sk lm cl fe l t
variable {l sk lm cl fe}
theorem qd4 (X:Nat->BitVec 8):IsB (qna X):=fun _=>⟨_,rfl⟩
theorem qx7 (h:LsW l sk lm cl fe):posI sk/\posI lm/\posI cl/\qpa (fe+1)/\posI (fe+1)/\posI (l.length:Int):=by
 have h1:=h.hsk
 have h2:=h.hlm
 have h3:=h.hcl
 have h4:=h.hfe
 have h5:=h.sz
 unfold vTm at h3
 unfold posI
 exact ⟨⟨by omega,by omega⟩,⟨by omega,by omega⟩,⟨by omega,by omega⟩,⟨by omega,by omega⟩,⟨by omega,by omega⟩,⟨by omega,by omega⟩⟩
theorem jmf (h:LsW l sk lm cl fe):Runs cfgEi 32 [rfA sk lm cl fe (rfL 0 l.length)] [rfW (rowM l) l.length] fun v H=>(∃ X,v=.slice ⟨2,.lit 0⟩ (.sym (40+40 * l.length)) (.rest 2 0)/\H[2]? = some (riB X (40+40 * l.length))/\∀ t,t<40+40 * l.length->X t=riX sk lm cl fe l t):=by
 obtain ⟨p1,p2,p3,p4,p5,p6⟩:=qx7 h
 have hz:l.length<=65536:=by have:=h.sz; have:=h.hlm; omega
 refine quc qe1 (riK l sk lm cl fe) (riOK l sk lm cl fe) (fun a=>l.length - a.1) (fun g nm hg=>by cases hg) ?_ fun a ha J => ?_
 . refine qwc (ms:=[(0,4,.int .i64 (.lit 0)),(0,3,.slice ⟨10,.lit 0⟩ (.lit 40) (.rest 10 0))]) (es:=[(2,.ent (.own (.lst (riH sk lm cl fe (l.length:Int))) false 5))]) (ds:=[]) (names:=rn3) (N:=11) (M:=riC (rowM l) l.length sk lm cl fe (riX sk lm cl fe l) 0 40) (some (1,0)) 20000 (0,riX sk lm cl fe l) ⟨Nat.zero_le _,fun t _=>rfl⟩ (fun z=>jgf (rowM l) l.length sk lm cl fe (riX sk lm cl fe l) z) (ri_n3 (rowM l) l.length sk lm cl fe _ 0 40 _ 0 40) (fun q hq p v hp hv => ?_) (fun e he E0 hE0 => ?_)
    (all_cons p1 (all_cons p2 (all_cons (Nat.le_refl 8) (all_cons (Nat.le_refl 8) (all_cons p3 (all_cons p4 (all_cons p5 (all_cons (Nat.le_refl 8) (all_cons (Nat.le_refl 8) (all_cons p6 (all_cons (Nat.le_refl 8) qba)))))))))))
   . rcases List.mem_cons.1 hq with rfl | hq
     . exact qtd (jjf (rowM l) l.length sk lm cl fe _ 0 40) hp hv (qza rfl)
     . obtain rfl:=List.mem_singleton.1 hq
       exact qtd (jif (rowM l) l.length sk lm cl fe _ 0 40) hp hv fun _ _ h=>h
   . obtain rfl:=List.mem_singleton.1 he
     cases hE0
     exact ⟨_,rfl,qf1 sk lm cl fe l⟩
 obtain ⟨i,X⟩:=a
 obtain ⟨hi,hX⟩:i<=l.length/\∀ t,t<40+40 * i->X t=riX sk lm cl fe l t:=ha
 show qbd cfgEi _ _ _ _ ((riC (rowM l) l.length sk lm cl fe X i (40+40 * i)).fill J)
 by_cases c:i<l.length
 . have ht:=h.tm l[i] (List.getElem_mem c)
   unfold vTm at ht
   obtain ⟨g1,g2⟩:=qqf c
   have e0:rowM l (0+i * 33+0)=.int .i64 l[i].1:=by rw [Nat.zero_add,Nat.add_zero]; exact g1
   have ej:∀ j,j<32->rowM l (0+i * 33+1+0+j)=vB (l[i].2.at j):=fun j hj=>by
    rw [show 0+i * 33+1+0+j=i * 33+(j+1) by omega]; exact g2 j hj
   have hb:∀ {r s:Nat},((r+s) * 1<140737488355328/\r+s<140737488355328)/\1=1↔r+s<140737488355328:=fun {r s}=>⟨fun h=>h.1.2,fun h=>⟨⟨by omega,h⟩,rfl⟩⟩
   refine qtc (ds:=[true]) (names:=rn5) (N:=6) (M:=riC (rowM l) l.length sk lm cl fe X i (40+40 * i)) (some (1,0)) 20000 (i+1,riX2 X (40+40 * i) (rowM l) (0+i * 33)) ⟨⟨c,?_⟩,by show l.length - (i+1)<l.length - i; omega⟩ (fun z=>jhf (rowM l) l.length sk lm cl fe X i (40+40 * i) J z) (ri_n5 (rowM l) l.length sk lm cl fe _ (i+1) _ X i (40+40 * i))
    (all_cons (decide_eq_true (by omega)) (all_cons ⟨by omega,by omega⟩ (all_cons (by omega) (all_cons (by rw [e0]; exact fun _=>rfl) (all_cons (by rw [e0]; exact ⟨ht.1,by show l[i].1<_; omega⟩) (all_cons ⟨Nat.le_refl 8,qd4 _⟩ (all_cons ⟨by omega,qd4 _⟩ (all_cons (hb.2 (by omega)) (all_cons ⟨by omega,by omega⟩ (all_cons ⟨by omega,fun j hj=>by rw [ej j hj]; exact q93 _⟩ (all_cons ⟨by omega,qd4 _⟩ (all_cons (hb.2 (by omega)) (all_cons ⟨by omega,by omega⟩ qba)))))))))))))
   intro t ht'
   show riX2 X (40+40 * i) (rowM l) (0+i * 33) t=_
   unfold riX2 catB
   by_cases c1:t<40+40 * i+8
   . rw [if_pos c1]
     show (if 0+t<40+40 * i then X (0+(0+t)) else be8 (n64 (vNum (rowM l (0+i * 33+0)))) (0+(0+t - (40+40 * i))))=_
     rw [show 0+t=t by omega]
     by_cases c2:t<40+40 * i
     . rw [if_pos c2,Nat.zero_add]; exact hX t c2
     . rw [if_neg c2,e0,Nat.zero_add]
       have:=qwt (riNs sk lm cl fe l) c (show t - (40+40 * i)<8 by omega)
       rw [show 40+40 * i+(t - (40+40 * i))=t by omega] at this
       exact this.symm
   . rw [if_neg c1]
     have ht':t<40+40 * (i+1):=ht'
     show BitVec.ofInt 8 (vNum (rowM l (0+i * 33+1+0+(t - (40+40 * i+8)))))=_
     rw [ej _ (by omega)]
     have:=qxt (riNs sk lm cl fe l) c (show t - (40+40 * i+8)<32 by omega)
     rw [show 40+40 * i+(8+(t - (40+40 * i+8)))=t by omega] at this
     rw [show vNum (vB (l[i].2.at (t - (40+40 * i+8))))=((l[i].2.at (t - (40+40 * i+8))).toNat:Int) from rfl,qef]
     exact this.symm
 . have hie:i=l.length:=by omega
   subst hie
   exact q7b (js:=[2]) (names:=n3) (M:=riC (rowM l) l.length sk lm cl fe X l.length (40+40 * l.length)) none 20000 (fun z=>j4h (rowM l) l.length sk lm cl fe X l.length (40+40 * l.length) J z) (all_cons (decide_eq_false (by omega)) qba) fun H hH=>⟨X,rfl,(List.cons.inj (show [H[2]?]=[some (riB X (40+40 * l.length))] from hH)).1,hX⟩
end
def RfD.bN (d:RfD):Nat:=40+40 * d.l.length
def RfD.x (d:RfD):Nat->BitVec 8:=riX d.sk.den d.lm.den d.cl.den d.fe.den d.l
def riSm:Summ:=fun args H base=>qad args fun v=>rfV H v fun d=>.need d.w (.ok ⟨.slice ⟨base,.lit 0⟩ (.sym d.bN) (.rest base 0),[],[.own (.fn (qna d.x) d.bN) false 5]⟩)
theorem q8z {sk lm cl fe:Int} (h:LsW [] sk lm cl fe):Runs cfgEi 32 [rfA sk lm cl fe .nilSlice] [] fun v H=>v=.slice ⟨9,.lit 0⟩ (.lit 40) (.rest 9 0)/\H[9]? = some (.own (.lst (riH sk lm cl fe 0)) false 5):=by
 obtain ⟨p1,p2,p3,p4,p5,p6⟩:=qx7 h
 refine quc qe1 (fun _:Unit=>riC (rowM []) 0 sk lm cl fe (fun _=>0#8) 0 0) (fun _=>False) (fun _=>0) (fun g nm hg=>by cases hg) ?_ fun a ha J=>ha.elim
 exact q6u none 20000 (fun z=>j3h (rowM []) 0 sk lm cl fe (fun _=>0#8) 0 0 z) (all_cons p1 (all_cons p2 (all_cons (Nat.le_refl 8) (all_cons (Nat.le_refl 8) (all_cons p3 (all_cons p4 (all_cons p5 (all_cons (Nat.le_refl 8) (all_cons (Nat.le_refl 8) (all_cons p6 (all_cons (Nat.le_refl 8) qba))))))))))) fun H hH=>⟨rfl,(List.cons.inj hH).1⟩
theorem riOKs:qdb Tryd.prog 32 riSm:=by
 intro glob O w0 β H w base args vs hH hG ha
 refine qob fun v hv=>q70 fun d hd => ?_
 rw [hv] at ha
 intro hw
 cases hn:d.nil with
 | true =>
   obtain ⟨hi,hl⟩:=qp7 hd hn
   have hls:LsW [] d.sk.den d.lm.den d.cl.den d.fe.den:=hl▸hw.ls
   have hx:d.x=riX d.sk.den d.lm.den d.cl.den d.fe.den []:=by unfold RfD.x; rw [hl]
   have hb:d.bN=40:=by unfold RfD.bN; rw [hl]; rfl
   refine qxc (c:=cfgEi) hH ⟨[],[],[d.a .nilSlice]⟩ (by intro g j hg; cases hg) (qla hi q3b _ _ ha) (Ifc.fitsQ (by simp) rfl trivial) [9] (by simp) (by simp) (qlb (q8z hls) fun v H2 ⟨h1,h2⟩ => ?_)
   subst h1
   refine ⟨?_,?_,trivial,⟨.inl ⟨_,_,_,_,h2,jpa _ _ _ _ _ _,?_,rfl⟩,trivial⟩⟩
   . show SV.Imp (.slice ⟨Ifc.out _ base [9] 9,.lit 0⟩ (.lit 40) (.rest (Ifc.out _ base [9] 9) 0)) _
     rw [out1 (by show 0<=9; omega)]
     exact qre (by rw [hb]; rfl)
   . show (Ifc.seen _ [9] 9 && (true && Ifc.seen _ [9] 9))=true
     rw [qhw]; rfl
   . rw [jkf,hx,hb]
     exact qf1 d.sk.den d.lm.den d.cl.den d.fe.den []
 | false =>
   rw [hd.val] at ha
   refine qxc (c:=cfgEi) hH (rfI d []) (by intro g j hg; cases hg) (qla (jwh hd hn) q3b _ _ ha) (jja hd hw hn rfl) [2] (by simp [rfI]) (by simp) (qlb (jmf hw.ls) fun v H2 ⟨X,h1,h2,h3⟩ => ?_)
   subst h1
   refine ⟨?_,?_,trivial,⟨.inl ⟨_,_,_,_,h2,fun _=>rfl,jlf h3,rfl⟩,trivial⟩⟩
   . show SV.Imp (.slice ⟨(rfI d []).out base [2] 2,.lit 0⟩ (.sym (40+40 * d.l.length)) (.rest ((rfI d []).out base [2] 2) 0)) _
     rw [out1 (by show 1<=2; omega)]
     exact .refl _
   . show ((rfI d []).seen [2] 2 && (true && (rfI d []).seen [2] 2))=true
     rw [qhw]; rfl
end
noncomputable section
open Go.Sim
open Go.Proofs
variable {α:Type}
set_option maxRecDepth 1000000
section
variable (es:List MapEntry) (c:Nat) (sk lm cl fe:Int)
def lnT:Tree:=qfa cfgP0 20000 23 [.ptr ⟨0,.lit 0⟩] [chRw 1 sk lm cl fe,.obj (.amap kMk uMk es c)]
def ckT:Tree:=qfa cfgP0 20000 14 [.ptr ⟨0,.lit 0⟩] [chRw 1 sk lm cl fe,.obj (.amap kMk uMk es c)]
theorem j6h:outO [1] (lnT es c sk lm cl fe) [false]=([lm0 lm],some (.int .i64 (.sym (es.length:Int)),[some (.obj (.amap kMk uMk es c))])):=by kernel_rfl
theorem j7h:outO [1] (ckT es c sk lm cl fe) [false]=([lm0 lm],some (.int .i64 (.sym cl),[some (.obj (.amap kMk uMk es c))])):=by kernel_rfl
end
def lnSm:Summ:=fun args H _=>qad args fun p=>chRd H p fun d=>.need d.w (.ok ⟨.int .i64 (.sym (d.es.length:Int)),[],[]⟩)
def ckSm:Summ:=fun args H _=>qad args fun p=>chRd H p fun d=>.need d.w (.ok ⟨.int .i64 (.sym d.cl.den),[],[]⟩)
theorem lnOK:qdb Tryd.prog 23 lnSm:=by
 intro glob O w0 β H w base args vs hH hG ha
 refine qob fun p hv=>qbj fun d hd => ?_
 rw [hv,hd.ptr] at ha
 intro hw
 refine qoh (k':=kMk) (v':=uMk) hH hd.map ?_
 exact qqc cfgP0OK 20000 hH (chJ d []) (by intro g j hg; cases hg) ha (qqh hd rfl) [] (by simp) (by simp) (q2b (j6h d.es d.c d.sk.den d.lm.den d.cl.den d.fe.den) (all_cons hw.lm0 qba) fun H2 hH2=>⟨.refl _,rfl,qrh (List.cons.inj hH2).1,trivial⟩)
theorem ckOK:qdb Tryd.prog 14 ckSm:=by
 intro glob O w0 β H w base args vs hH hG ha
 refine qob fun p hv=>qbj fun d hd => ?_
 rw [hv,hd.ptr] at ha
 intro hw
 refine qoh (k':=kMk) (v':=uMk) hH hd.map ?_
 exact qqc cfgP0OK 20000 hH (chJ d []) (by intro g j hg; cases hg) ha (qqh hd rfl) [] (by simp) (by simp) (q2b (j7h d.es d.c d.sk.den d.lm.den d.cl.den d.fe.den) (all_cons hw.lm0 qba) fun H2 hH2=>⟨.refl _,rfl,qrh (List.cons.inj hH2).1,trivial⟩)
end
noncomputable section
open Go.Sim
open Go.Proofs
variable {α:Type}
set_option maxRecDepth 1000000
def rlA:List (FuncId × Summ):=[(18,enSm),(11,imSm),(32,riSm),(23,lnSm),(14,ckSm)]
def cfgAg:Cfg:=qbg (qkc rlA)
theorem qg1:CfgOK cfgAg:=qjd (by
 intro y hy
 rcases List.mem_cons.1 hy with rfl | hy
 . exact enOK
 rcases List.mem_cons.1 hy with rfl | hy
 . exact j1c
 rcases List.mem_cons.1 hy with rfl | hy
 . exact riOKs
 rcases List.mem_cons.1 hy with rfl | hy
 . exact lnOK
 . obtain rfl:=List.mem_singleton.1 hy
   exact ckOK)
section
variable (es:List MapEntry) (c:Nat) (sk lm cl fe:Int) (W:Nat->Value) (n:Nat)
def agN (st:Option (Nat × Nat)):Tree:=qfa (cfgAg.at st) 20000 10 [.ptr ⟨0,.lit 0⟩,rfA sk lm cl fe .nilSlice] [chRw 1 sk lm cl fe,.obj (.amap kMk uMk es c)]
def agT (st:Option (Nat × Nat)):Tree:=qfa (cfgAg.at st) 20000 10 [.ptr ⟨0,.lit 0⟩,rfA sk lm cl fe (rfL 2 n)] [chRw 1 sk lm cl fe,.obj (.amap kMk uMk es c),rfW W n]
variable (U:Nat->Value) (m i:Nat) (J:Junk) (z:Nat->Nat->Nat)
def agS:SS:=qpd (agT es c sk lm cl fe W n (some (2,0))) [false,false,false]
def agE (j:Nat):HP:=.ent ((nth (agS es c sk lm cl fe W n).heap j).getD .gone)
def kInt:SO:=.own (.lst [.int .i64 (.sym (i:Int))]) true 3
def agC:Cut:=⟨qqd (agS es c sk lm cl fe W n).frames [[(0,.func (.yield 11) [] []),(5,.slice ⟨6,.lit 0⟩ (.sym m) (.sym m)),(6,.int .i64 (.sym m)),(7,.int .i64 (.sym i))],[(3,.ptr ⟨3,.lit 0⟩),(4,.ptr ⟨4,.lit 0⟩),(6,.ptr ⟨9,.lit 0⟩)]],
 [.ent (chRw 1 sk lm cl fe),.ent (.obj (.amap kMk uMk es c)),.ent (rfW W n),.ent (rfB sk lm cl fe (rfL 2 n)),agE es c sk lm cl fe W n 4,agE es c sk lm cl fe W n 5,.ent (soR U m),.ent .gone,.ent .gone,.ent (kInt i),agE es c sk lm cl fe W n 10,jwc (nth (agS es c sk lm cl fe W n).heap 11) [(3,.ptr ⟨3,.lit 0⟩),(4,.ptr ⟨4,.lit 0⟩),(6,.ptr ⟨9,.lit 0⟩)]]⟩
def ag1 (st:Option (Nat × Nat)):Tree:=sim1 (cfgAg.at st) 20000 ((agC es c sk lm cl fe W n U m i).fill J)
end
end
noncomputable section
open Go.Sim
open Go.Proofs
variable {α:Type}
set_option maxRecDepth 1000000
def fitD (W:Nat->Value) (o:Nat):Prop:=qjo (mapN (fun j=>SV.val (W (o+j))) (qra 32 0)) (repN (.i .u8) 32)
def eqD (U:Nat->Value) (o:Nat) (W:Nat->Value) (o':Nat):Bool:=(optC (q8c (repN .i 32) (mapN (fun j=>.int .u8 (.b8 (BitVec.ofInt 8 (vNum (U (o+(j+1))))))) (qra 32 0)) (mapN (fun j=>.int .u8 (.b8 (BitVec.ofInt 8 (vNum (W (o'+j)))))) (qra 32 0))) (SB.lit false) fun b=>b).den
section
variable (es:List MapEntry) (c:Nat) (sk lm cl fe:Int) (W U:Nat->Value) (n m i:Nat) (J:Junk) (z:Nat->Nat->Nat)
def n12:List Nat:=[0,1,2,3,4,5,6,7,8,9,10,11]
def agQ:List Prop:=[decide ((i:Int)<(m:Int))=true,ixP i m,0+i * 33+33<=m * 33,fitM U (0+i * 33),decide ((i:Int)>=(n:Int))=false,ixP i n,0+i * 33+0<n * 33,fitK (.i .i64) (W (0+i * 33+0)),(vNum (U (0+i * 33+0)) != vNum (W (0+i * 33+0)))=false,ixP i n,0+i * 33+1+32<=n * 33,fitD W (0+i * 33+1),(!eqD U (0+i * 33) W (0+i * 33+1))=false,nxI i,nxI i]
theorem jnf:outL [] (agC es c sk lm cl fe W n U m i) n12 (ag1 es c sk lm cl fe W n U m i J (some (2,0))) [true,false,false,false] z=(agQ W U n m i,some (.inr (qqa n12 14 (agC es c sk lm cl fe W n U m (i+1))))):=by kernel_rfl
theorem j8h:outL [1] (agC es c sk lm cl fe W n U m i) n12 (ag1 es c sk lm cl fe W n U m i J none) [false] z=([decide ((i:Int)<(m:Int))=false],some (.inl (.bool (.sym (decide ((i:Int)=(n:Int)))),[some (.obj (.amap kMk uMk es c))]))):=by kernel_rfl
theorem ag_n (r:Nat):boolC (q5a 3 n12 (agC es c sk lm cl fe W n U m r) (agC es c sk lm cl fe W n U m i)) (allN qwa (agC es c sk lm cl fe W n U m i).heap) false=true:=by kernel_rfl
end
end
noncomputable section
open Go.Sim
open Go.Proofs
variable {α:Type}
set_option maxRecDepth 1000000
section
variable (es:List MapEntry) (c:Nat) (sk lm cl fe:Int) (W:Nat->Value) (n:Nat) (z:Nat->Nat->Nat)
def agDC:ChD:=⟨0,1,.sym sk,.sym lm,.sym cl,.sym fe,es,c⟩
def agDR:RfD:=⟨.sym sk,.sym lm,.sym cl,.sym fe,2,W,n * 33,.sym n,false⟩
def agDN:RfD:=⟨.sym sk,.sym lm,.sym cl,.sym fe,0,fun _=>undef,0,.lit 0,true⟩
def strP (X:Nat->BitVec 8) (k:Nat):Prop:=0+k<=k/\∀ i,i<k->q54 (qna X i)
def agP (D:RfD) (m:Int):List Prop:=[(agDC es c sk lm cl fe).w,(agDC es c sk lm cl fe).w,((es.length:Int) != m)=false,(agDC es c sk lm cl fe).w,(cl != cl)=false,(agDC es c sk lm cl fe).w,strP (agDC es c sk lm cl fe).x (agDC es c sk lm cl fe).n,D.w,strP D.x D.bN,
 (!decide (qkd (qna (agDC es c sk lm cl fe).x) 0 (agDC es c sk lm cl fe).n=qkd (qna D.x) 0 D.bN))=false]
theorem jof:outL [] (agC es c sk lm cl fe W n (rowM (lsM es)) es.length 0) n12 (agT es c sk lm cl fe W n (some (2,0))) [false,false,false] z=(agP es c sk lm cl fe (agDR sk lm cl fe W n) (n:Int),some (.inr (qeb [(0,7,.int .i64 (.lit 0))] [(9,.ent (.own (.lst [.int .i64 (.lit 0)]) true 3))] (qqa n12 12 (agC es c sk lm cl fe W n (rowM (lsM es)) es.length 0))))):=by kernel_rfl
theorem j9h:outL [1] (agC es c sk lm cl fe W n (rowM (lsM es)) es.length 0) n12 (agN es c sk lm cl fe none) [false,false,false,false] z=(app (agP es c sk lm cl fe (agDN sk lm cl fe) 0) [decide ((0:Int)<(es.length:Int))=false],some (.inl (.bool (.lit true),[some (.obj (.amap kMk uMk es c))]))):=by kernel_rfl
theorem jpf (U:Nat->Value) (m i:Nat):(((agC es c sk lm cl fe W n U m i).frames[0]?).bind fun p=>p.tmps[7]?)=some (some (.int .i64 (.sym (i:Int)))):=by kernel_rfl
end
end
noncomputable section
open Go.Sim
open Go.Proofs
variable {α:Type}
set_option maxRecDepth 1000000
theorem jqa {l:List Mk} {j:Nat} (hj:j<l.length):fitD (rowM l) (0+j * 33+1):=by
 obtain ⟨h1,h2⟩:=qqf hj
 unfold fitD
 have e:mapN (fun i=>SV.val (rowM l (0+j * 33+1+i))) (qra 32 0)=((List.range 32).map fun i=>rowM l (0+j * 33+1+i)).map SV.val:=by
  rw [qja,qya,← List.range_eq_range',List.map_map]; rfl
 rw [e]
 refine qco fun i x k hx hk => ?_
 rw [List.getElem?_map,Option.map_eq_some_iff] at hx
 obtain ⟨i',hi',rfl⟩:=hx
 obtain ⟨hi,rfl⟩:i<32/\i=i':=by
  obtain ⟨h,he⟩:=List.getElem?_eq_some_iff.1 hi'
  simp at h he
  exact ⟨h,he⟩
 rw [q9c] at hk
 have hk:k=.i .u8:=(List.eq_of_mem_replicate (List.mem_of_getElem? hk))
 rw [hk,show 0+j * 33+1+i=j * 33+(i+1) by omega,h2 i hi]
 exact q93 _
theorem jqf {l:List Mk} {j:Nat} (_hj:j<l.length):eqD (rowM l) (0+j * 33) (rowM l) (0+j * 33+1)=true:=by
 obtain ⟨s,h1,h2⟩:=qwy (fun t=>BitVec.ofInt 8 (vNum (rowM l (0+j * 33+(t+1))))) (fun t=>BitVec.ofInt 8 (vNum (rowM l (0+j * 33+1+t)))) (List.range 32)
 unfold eqD
 rw [qja,qja,qya,← List.range_eq_range',q9c]
 rw [List.length_range] at h1
 rw [h1,qc4,h2]
 intro t _
 show BitVec.ofInt 8 (vNum (rowM l (0+j * 33+(t+1))))=BitVec.ofInt 8 (vNum (rowM l (0+j * 33+1+t)))
 rw [show 0+j * 33+(t+1)=0+j * 33+1+t by omega]
section
variable {es:List MapEntry} {c:Nat} {sk lm cl fe:Int}
def agD (es:List MapEntry) (c:Nat) (v:SV) (H:List SO):Prop:=∃ b,v=.bool b/\b.den=true/\H[1]? = some (.obj (.amap kMk uMk es c))
theorem qh1 (h:ChW es c sk lm cl fe) {D:RfD} (hD:D.w) (hx:D.x=(agDC es c sk lm cl fe).x) (hb:D.bN=(agDC es c sk lm cl fe).n) {m:Int} (hm:(es.length:Int)=m):∀ p∈agP es c sk lm cl fe D m,p:=by
 have hs:∀ X k,strP X k:=fun X k=>⟨by omega,fun i _=>trivial⟩
 refine all_cons h (all_cons h (all_cons (by simp [hm]) (all_cons h (all_cons (by simp) (all_cons h (all_cons (hs _ _) (all_cons hD (all_cons (hs _ _) (all_cons ?_ qba)))))))))
 rw [hx,hb]; simp
theorem jrf (h:ChW es c sk lm cl fe):Runs cfgAg 10 [.ptr ⟨0,.lit 0⟩,rfA sk lm cl fe (rfL 2 (lsM es).length)] [chRw 1 sk lm cl fe,.obj (.amap kMk uMk es c),rfW (rowM (lsM es)) (lsM es).length] (agD es c):=by
 have hl:=h.len
 have hz:es.length<=65536:=by have:=h.sz; have:=h.hlm; omega
 have hw:(agDR sk lm cl fe (rowM (lsM es)) (lsM es).length).w:=⟨fun _=>⟨Nat.le_refl _,(q9i (lsM es)).1⟩,by show LsW (mkL (rowM (lsM es)) (lsM es).length) _ _ _ _; rw [(q9i (lsM es)).2]; exact h.ls⟩
 have hDl:(agDR sk lm cl fe (rowM (lsM es)) (lsM es).length).l=lsM es:=(q9i (lsM es)).2
 refine quc qg1 (fun i=>agC es c sk lm cl fe (rowM (lsM es)) (lsM es).length (rowM (lsM es)) es.length i) (fun i=>i<=es.length) (fun i=>es.length - i) (fun g nm hg=>by cases hg) ?_ fun i hi J => ?_
 . refine qwc (ms:=[(0,7,.int .i64 (.lit 0))]) (es:=[(9,.ent (.own (.lst [.int .i64 (.lit 0)]) true 3))]) (ds:=[false,false,false]) (names:=n12) (N:=12) (M:=agC es c sk lm cl fe (rowM (lsM es)) (lsM es).length (rowM (lsM es)) es.length 0) (some (2,0)) 20000 0 (Nat.zero_le _) (fun z=>jof es c sk lm cl fe (rowM (lsM es)) (lsM es).length z) (ag_n es c sk lm cl fe (rowM (lsM es)) (rowM (lsM es)) (lsM es).length es.length 0 0) (fun q hq p v hp hv => ?_) (fun e he E0 hE0 => ?_) (qh1 h hw ?_ ?_ (by rw [hl]))
   . obtain rfl:=List.mem_singleton.1 hq
     exact qtd (jpf es c sk lm cl fe (rowM (lsM es)) (lsM es).length (rowM (lsM es)) es.length 0) hp hv (qza rfl)
   . obtain rfl:=List.mem_singleton.1 he
     cases hE0
     exact ⟨_,rfl,fun γ vs hv=>hv⟩
   . unfold RfD.x riX riNs
     rw [hDl,← hl]; rfl
   . unfold RfD.bN
     rw [hDl,← hl]; rfl
 show qbd cfgAg _ _ _ _ ((agC es c sk lm cl fe (rowM (lsM es)) (lsM es).length (rowM (lsM es)) es.length i).fill J)
 by_cases hc:i<es.length
 . have hil:i<(lsM es).length:=by omega
   have e0:rowM (lsM es) (0+i * 33+0)=.int .i64 (lsM es)[i].1:=by rw [Nat.zero_add,Nat.add_zero]; exact (qqf hil).1
   exact qtc (ds:=[true,false,false,false]) (names:=n12) (N:=14) (M:=agC es c sk lm cl fe (rowM (lsM es)) (lsM es).length (rowM (lsM es)) es.length i) (some (2,0)) 20000 (i+1) ⟨hc,by show es.length - (i+1)<es.length - i; omega⟩ (fun z=>jnf es c sk lm cl fe (rowM (lsM es)) (rowM (lsM es)) (lsM es).length es.length i J z) (ag_n es c sk lm cl fe (rowM (lsM es)) (rowM (lsM es)) (lsM es).length es.length (i+1) i)
    (all_cons (decide_eq_true (by omega)) (all_cons ⟨by omega,by omega⟩ (all_cons (by omega) (all_cons (qwq hil) (all_cons (decide_eq_false (by omega)) (all_cons ⟨by omega,by omega⟩ (all_cons (by omega) (all_cons (by rw [e0]; exact fun _=>rfl) (all_cons (by simp) (all_cons ⟨by omega,by omega⟩ (all_cons (by omega) (all_cons (jqa hil) (all_cons (by rw [jqf hil]; rfl) (all_cons ⟨by omega,by omega⟩ (all_cons ⟨by omega,by omega⟩ qba)))))))))))))))
 . refine q7b (js:=[1]) (names:=n12) (M:=agC es c sk lm cl fe (rowM (lsM es)) (lsM es).length (rowM (lsM es)) es.length i) none 20000 (fun z=>j8h es c sk lm cl fe (rowM (lsM es)) (rowM (lsM es)) (lsM es).length es.length i J z) (all_cons (decide_eq_false (by omega)) qba) fun H hH=>⟨_,rfl,?_,(List.cons.inj hH).1⟩
   show decide ((i:Int)=((lsM es).length:Int))=true
   exact decide_eq_true (by omega)
end
theorem q9z {es:List MapEntry} {c:Nat} {sk lm cl fe:Int} (h:ChW es c sk lm cl fe) (hl:lsM es=[]):Runs cfgAg 10 [.ptr ⟨0,.lit 0⟩,rfA sk lm cl fe .nilSlice] [chRw 1 sk lm cl fe,.obj (.amap kMk uMk es c)] (agD es c):=by
 have hlen:es.length=0:=by rw [h.len,hl]; rfl
 have hw:(agDN sk lm cl fe).w:=⟨fun h=>(by cases h),by show LsW [] sk lm cl fe; have:=h.ls; rwa [hl] at this⟩
 refine quc qg1 (fun _:Unit=>agC es c sk lm cl fe (rowM (lsM es)) 0 (rowM (lsM es)) es.length 0) (fun _=>False) (fun _=>0) (fun g nm hg=>by cases hg) ?_ fun a ha J=>ha.elim
 refine q6u none 20000 (fun z=>j9h es c sk lm cl fe (rowM (lsM es)) 0 z) (qrt (qh1 h hw ?_ ?_ (by rw [hlen]; rfl)) (all_cons (decide_eq_false (by omega)) qba)) fun H hH=>⟨_,rfl,rfl,(List.cons.inj hH).1⟩
 . show imgB [sk,lm,cl,fe+1,((0:Nat):Int)] []=imgB [sk,lm,cl,fe+1,(es.length:Int)] (lsM es)
   rw [hlen,hl]
 . show 40+40 * 0=40+40 * es.length
   rw [hlen]
def j7c (d:ChD) (D:RfD):Prop:=lsM d.es=D.l/\D.sk.den=d.sk.den/\D.lm.den=d.lm.den/\D.cl.den=d.cl.den/\D.fe.den=d.fe.den
def agSm:Summ:=fun args H _=>qhe args fun p v=>chRd H p fun d=>rfV H v fun D=>.need (d.w/\D.w/\j7c d D) (.ok ⟨.bool (.lit true),[],[]⟩)
theorem agOK:qdb Tryd.prog 10 agSm:=by
 intro glob O w0 β H w base args vs hH hG ha
 refine q6b fun p v hv=>qbj fun d hd=>q70 fun D hD => ?_
 rintro ⟨hw,hW,e1,e2,e3,e4,e5⟩
 rw [hv,hd.ptr] at ha
 have hb:∀ {v:SV} {H2:List SO},agD d.es d.c v H2->∀ (g:Nat->Nat) (p:Nat->Bool),(v.ren g).Imp (.bool (.lit true))/\v.uses p=true:=fun {v H2} ⟨b,h1,h2,_⟩ g p=>by
  subst h1
  refine ⟨fun γ x hx => ?_,rfl⟩
  have hx:some (Value.bool b.den)=some x:=hx
  rw [h2] at hx
  exact hx
 refine qoh (k':=kMk) (v':=uMk) hH hd.map ?_
 cases hn:D.nil with
 | true =>
   obtain ⟨hi,hl⟩:=qp7 hD hn
   have hi:v.Imp (rfA d.sk.den d.lm.den d.cl.den d.fe.den .nilSlice):=by rw [← e2,← e3,← e4,← e5]; exact hi
   exact qxc (c:=cfgAg) hH (chJ d [rfA d.sk.den d.lm.den d.cl.den d.fe.den .nilSlice]) (by intro g j hg; cases hg) (qla (.refl _) (qla hi q3b) _ _ ha) (qqh hd rfl) [] (by simp) (by simp) (qlb (q9z hw (e1.trans hl)) fun v H2 h=>⟨(hb h _ fun _=>true).1,(hb h id _).2,qrh (let ⟨_,_,_,h3⟩:=h; h3),trivial⟩)
 | false =>
   obtain ⟨er,her,hor⟩:=hD.row hn
   obtain ⟨ec,hec,hoc⟩:=hd.cell
   obtain ⟨r1,r2⟩:=hW.row hn
   have hne1:D.nm≠d.nm:=fun e=>by
    rw [e,hec] at her
    cases her
    rcases hor with rfl | ⟨_,_,rfl⟩ <;> rcases hoc with h | ⟨_,_,h⟩ <;> cases h
   have hne2:D.nm≠d.mm:=fun e=>by
    rw [e,hd.map] at her
    cases her
    rcases hor with h | ⟨_,_,h⟩ <;> cases h
   have hlen:(lsM d.es).length=D.n.den:=by rw [e1]; exact RfD.len
   let I:Ifc:=⟨[d.nm,d.mm,D.nm],[chRw 1 d.sk.den d.lm.den d.cl.den d.fe.den,.obj (.amap kMk uMk d.es d.c),rfW (rowM (lsM d.es)) (lsM d.es).length],[.ptr ⟨0,.lit 0⟩,rfA d.sk.den d.lm.den d.cl.den d.fe.den (rfL 2 (lsM d.es).length)]⟩
   have hF:I.FitsQ H:=by
    refine Ifc.fitsQ (by show [d.nm,d.mm,D.nm].Nodup; simp; exact ⟨⟨hd.ne,fun e=>hne1 e.symm⟩,fun e=>hne2 e.symm⟩) rfl ⟨⟨⟨_,hec,_,hoc,fun γ us hu=>⟨us.length,?_⟩⟩,rfl⟩,⟨⟨_,hd.map,_,rfl,fun _ _ h=>h⟩,rfl⟩,⟨⟨_,her,_,hor,fun γ us ⟨g1,g2⟩=>⟨(lsM d.es).length * 33,?_,fun i x hx => ?_⟩⟩,trivial⟩,trivial⟩
    . rw [List.take_length]
      have:SV.renL I.big (chC 1 d.sk.den d.lm.den d.cl.den d.fe.den)=chC d.mm d.sk.den d.lm.den d.cl.den d.fe.den:=rfl
      show SV.denL γ (SV.renL _ _)=some us
      rw [this]
      exact qla (qza rfl) (qla (qza rfl) (qla (qza rfl) (qla (qza rfl) (qla (.refl _) q3b)))) _ _ hu
    . rw [List.length_take]; omega
    . have hi:i<(lsM d.es).length * 33:=by
       have:=(List.getElem?_eq_some_iff.1 hx).1
       rw [List.length_take] at this; omega
      rw [List.getElem?_take,if_pos hi] at hx
      rw [g2 i x hx,e1]
      exact qaj r2 i (by omega)
   have hv2:v.Imp ((rfA d.sk.den d.lm.den d.cl.den d.fe.den (rfL 2 (lsM d.es).length)).ren I.big):=by
    have e:(rfA d.sk.den d.lm.den d.cl.den d.fe.den (rfL 2 (lsM d.es).length)).ren I.big=rfA d.sk.den d.lm.den d.cl.den d.fe.den (.slice ⟨D.nm,.lit 0⟩ (.sym (lsM d.es).length) (.rest D.nm 0)):=rfl
    rw [e,hD.val,← e2,← e3,← e4,← e5]
    refine qvy ?_
    unfold RfD.L
    rw [hn]
    exact qre hlen.symm
   exact qxc (c:=cfgAg) hH I (by intro g j hg; cases hg) (qla (.refl _) (qla hv2 q3b) _ _ ha) hF [] (by simp) (by simp) (qlb (jrf hw) fun v H2 h=>⟨(hb h _ fun _=>true).1,(hb h id _).2,⟨⟨rfl,.inr ⟨_,_,(let ⟨_,_,_,h3⟩:=h; h3),rfl,fun _ _ h=>h,rfl⟩⟩,trivial⟩,trivial⟩)
end
noncomputable section
open Go.Sim
open Go.Proofs
variable {α:Type}
def qxi:Nat->Option Nat:=fun g=>boolC (Nat.beq g 0) (some 0) (boolC (Nat.beq g 2) (some 1) none)
def startL:List Nat:=[0x6a09e667,0xbb67ae85,0x3c6ef372,0xa54ff53a,0x510e527f,0x9b05688c,0x1f83d9ab,0x5be0cd19]
def constL:List Nat:=[
 0x428a2f98,0x71374491,0xb5c0fbcf,0xe9b5dba5,0x3956c25b,0x59f111f1,0x923f82a4,0xab1c5ed5,
 0xd807aa98,0x12835b01,0x243185be,0x550c7dc3,0x72be5d74,0x80deb1fe,0x9bdc06a7,0xc19bf174,
 0xe49b69c1,0xefbe4786,0x0fc19dc6,0x240ca1cc,0x2de92c6f,0x4a7484aa,0x5cb0a9dc,0x76f988da,
 0x983e5152,0xa831c66d,0xb00327c8,0xbf597fc7,0xc6e00bf3,0xd5a79147,0x06ca6351,0x14292967,
 0x27b70a85,0x2e1b2138,0x4d2c6dfc,0x53380d13,0x650a7354,0x766a0abb,0x81c2c92e,0x92722c85,
 0xa2bfe8a1,0xa81a664b,0xc24b8b70,0xc76c51a3,0xd192e819,0xd6990624,0xf40e3585,0x106aa070,
 0x19a4c116,0x1e376c08,0x2748774c,0x34b0bcb5,0x391c0cb3,0x4ed8aa4a,0x5b9cca4f,0x682e6ff3,
 0x748f82ee,0x78a5636f,0x84c87814,0x8cc70208,0x90befffa,0xa4506ceb,0xbef9a3f7,0xc67178f2]
abbrev W32:=BitVec 32
def wd (n:Nat):W32:=BitVec.ofNat 32 n
def wi (n:Nat):W32:=BitVec.ofInt 32 (Int.ofNat n)
def wx (l:List W32):List SV:=mapN (fun x=>.int .u32 (.b32 x)) l
def kx (k:IntKind) (l:List Nat):List SV:=mapN (fun n=>.int k (.lit (Int.ofNat n))) l
def qsc:List W32:=mapN wi startL
def constV':List W32:=mapN wi constL
def qah:SO:=.row (.lst (kx .u32 startL))
def qbh:SO:=.row (.lst (kx .u32 constL))
def anyR:SO:=.row (.lst [])
def qjw (l:List SO):List SO:=qah::qbh::anyR::anyR::l
theorem qdv {f:Nat->Nat} {e:Option SO} (h:qpt e=true):∃ e',e=some e'/\Taken f anyR e':=by
 cases e with
 | none=>cases h
 | some e =>
   have hf:∀ c:Cells,c.Front ((Cells.lst []).ren f):=fun c β vs _=>⟨0,by rw [List.take_zero]; rfl⟩
   cases e with
   | own c w el=>exact ⟨_,rfl,qei (.inr ⟨_,_,rfl⟩) (hf c)⟩
   | row c=>exact ⟨_,rfl,qei (.inl rfl) (hf c)⟩
   | loop=>cases h
   | deferred=>cases h
   | gone=>cases h
   | obj=>cases h
theorem qws (k:IntKind) (f:Nat->Nat):∀ xs,SV.renL f (kx k xs)=kx k xs
 | []=>rfl
 | x::xs=>by show _::SV.renL f (kx k xs)=_; rw [qws k f xs]; rfl
theorem qtf (k:IntKind) (p:Nat->Bool):∀ xs,SV.usesL p (kx k xs)=true
 | []=>rfl
 | x::xs=>by show (true && SV.usesL p (kx k xs))=true; rw [qtf k p xs]; rfl
theorem qxs (f:Nat->Nat):∀ xs,SV.renL f (wx xs)=wx xs
 | []=>rfl
 | x::xs=>by show _::SV.renL f (wx xs)=_; rw [qxs f xs]; rfl
theorem q1t (p:Nat->Bool):∀ xs,SV.usesL p (wx xs)=true
 | []=>rfl
 | x::xs=>by show (true && SV.usesL p (wx xs))=true; rw [q1t p xs]; rfl
def litK (k:IntKind) (v:SV):Option Nat:=v.asInt none fun k' n=>boolC (eqK k' k) (n.asLit none fun n=>intC n some fun _=>none) none
theorem qy7 {k:IntKind} {v:SV} {n:Nat} (h:litK k v=some n):v=.int k (.lit (.ofNat n)):=by
 unfold litK at h
 rcases q1b v with ⟨k',m,rfl⟩ | hv
 . obtain ⟨hk,h⟩:=qzb (show boolC (eqK k' k) (m.asLit none fun n=>intC n some fun _=>none) none=some n from h)
   rw [qbf hk]
   cases m with
   | lit m=>cases m with
     | ofNat m=>cases h; rfl
     | negSucc m=>cases h
   | sym=>cases h
   | b8=>cases h
   | b32=>cases h
   | b64=>cases h
 . rw [hv] at h; cases h
def isK (k:IntKind) (L:List Nat):List SV->Bool :=
 List.rec (motive:=fun _=>List SV->Bool) (fun l=>nilN l) (fun t _ ih l=>List.rec (motive:=fun _=>Bool) false (fun v r _=>optC (litK k v) false fun x=>boolC (Nat.beq x t) (ih r) false) l) L
theorem qyy {k:IntKind}:∀ {L:List Nat} {l:List SV},isK k L l=true->l=kx k L
 | [],[],_=>rfl
 | [],_::_,h=>by cases h
 | t::L,[],h=>by cases h
 | t::L,v::l,h=>by
   have h:(optC (litK k v) false fun x=>boolC (Nat.beq x t) (isK k L l) false)=true:=h
   cases hx:litK k v with
   | none=>rw [hx] at h; cases h
   | some x =>
     rw [hx] at h
     have h:boolC (Nat.beq x t) (isK k L l) false=true:=h
     cases he:Nat.beq x t with
     | false=>rw [he] at h; cases h
     | true =>
       rw [he] at h
       rw [qy7 hx,q0b he,qyy (L:=L) (l:=l) h]; rfl
def rowK (k:IntKind) (L:List Nat) (e:Option SO):Bool:=optC (qbe e) false fun l=>isK k L l
theorem qii {k:IntKind} {L:List Nat} {e:Option SO} (h:rowK k L e=true) (g:Nat->Nat):∃ e',e=some e'/\Taken g (.row (.lst (kx k L))) e':=by
 unfold rowK at h
 cases hc:qbe e with
 | none=>rw [hc] at h; cases h
 | some l =>
   rw [hc] at h
   rw [qyy h] at hc
   exact qok hc (by rw [qws]; exact .refl _)
def qkw (v:SV) (nm n:Nat):Bool:=v.asSlice false fun a l c=>boolC (Nat.beq a.nm nm) (a.off.asLit false fun o=>boolC (Nat.beq o 0) (l.asLit false fun m=>boolC (Nat.beq m n) (SC.rec (motive:=fun _=>Bool) (fun k=>Nat.beq k n) (fun _=>false) (fun _ _=>false) c) false) false) false
theorem asSlice_cases (v:SV):(∃ a l c,v=.slice a l c)\/∀ {γ:Type} (d:γ) (f:SA->SN->SC->γ),v.asSlice d f=d:=by
 cases v <;> first | exact .inl ⟨_,_,_,rfl⟩ | exact .inr fun _ _=>rfl
theorem qrm {b c:Bool} (h:boolC b c false=true):b=true/\c=true:=by cases b <;> first | exact ⟨rfl,h⟩ | cases h
theorem qe4 {v:SV} {nm n:Nat} (h:qkw v nm n=true):v=.slice ⟨nm,.lit 0⟩ (.lit n) (.lit n):=by
 unfold qkw at h
 rcases asSlice_cases v with ⟨⟨q,o⟩,l,c,rfl⟩ | hv
 . obtain ⟨h1,h⟩:=qrm h
   cases o <;> first | (cases h; done) | skip
   obtain ⟨h2,h⟩:=qrm h
   cases l <;> first | (cases h; done) | skip
   obtain ⟨h3,h⟩:=qrm h
   cases c <;> first | (cases h; done) | skip
   have h1:=q0b h1
   have h2:=q0b h2
   have h3:=q0b h3
   have h4:=q0b h
   subst h1 h2 h3 h4; rfl
 . rw [hv] at h; cases h
def qf4 (H:List SO) (r:R α):R α:=boolC (rowK .u32 startL (nth H 0)) (boolC (rowK .u32 constL (nth H 1)) (boolC (qpt (nth H 2)) (boolC (qpt (nth H 3)) r (.stuck 730)) (.stuck 731)) (.stuck 732)) (.stuck 733)
structure ShaTP (H:List SO):Prop where
 s0:∀ g,∃ e',H[0]? = some e'/\Taken g qah e'
 s1:∀ g,∃ e',H[1]? = some e'/\Taken g qbh e'
 s2:∀ g,∃ e',H[2]? = some e'/\Taken g anyR e'
 s3:∀ g,∃ e',H[3]? = some e'/\Taken g anyR e'
theorem qev {H:List SO} {r:R α} {φ:α->Prop} (h:ShaTP H->r.Sat φ):(qf4 H r).Sat φ:=by
 refine qta fun h0=>qta fun h1=>qta fun h2=>qta fun h3=>h ⟨fun g => ?_,fun g => ?_,fun g => ?_,fun g => ?_⟩
 . rw [← qca]; exact qii h0 g
 . rw [← qca]; exact qii h1 g
 . rw [← qca]; exact qdv h2
 . rw [← qca]; exact qdv h3
def quf (names:List Nat) (ents:List SO) (args:List SV):Ifc:=⟨0::1::2::3::names,qjw ents,args⟩
theorem qsm {H:List SO} (hT:ShaTP H) {names:List Nat} {ents:List SO} {args:List SV} (h:EntsOK (quf names ents args).big (quf names ents args).known H names ents):EntsOK (quf names ents args).big (quf names ents args).known H (quf names ents args).names (quf names ents args).ents :=
 ⟨⟨hT.s0 _,qtf _ _ _⟩,⟨hT.s1 _,qtf _ _ _⟩,⟨hT.s2 _,rfl⟩,⟨hT.s3 _,rfl⟩,h⟩
theorem qtm {β:Val} {names:List Nat} {ents:List SO} {args:List SV} (hG:GlobRel qxi β):∀ g j,qxi g=some j->(quf names ents args).known j=true/\∃ l,β ((quf names ents args).big j)=some l/\l.blk=g/\l.off=0:=by
 intro g j hg
 have hj:j=0\/j=1:=by
  rcases qpc (show boolC (Nat.beq g 0) (some 0) _=some j from hg) with ⟨_,h⟩ | h
  . cases h; exact .inl rfl
  obtain ⟨_,h⟩:=qzb h
  cases h; exact .inr rfl
 rcases hj with rfl | rfl
 . exact ⟨rfl,hG g 0 hg⟩
 . exact ⟨rfl,hG g 1 hg⟩
def rrt (x:W32) (n:Nat):W32:=x <<< (32 - n) ||| x >>> n
def tur2 (x:W32) (a b:Nat):W32:=BitVec.ofInt 32 0 ^^^ rrt x a ^^^ rrt x b
def tur3 (x:W32) (a b c:Nat):W32:=BitVec.ofInt 32 0 ^^^ rrt x a ^^^ rrt x b ^^^ rrt x c
def un32 (v:SV):Option W32:=v.asInt none fun k n=>boolC (eqK k .u32) (SI.rec (motive:=fun _=>Option W32) (fun _=>none) (fun _=>none) (fun _=>none) (fun x=>some x) (fun _=>none) n) none
theorem qbk {v:SV} {x:W32} (h:un32 v=some x):v=.int .u32 (.b32 x):=by
 unfold un32 at h
 rcases q1b v with ⟨k,n,rfl⟩ | hv
 . obtain ⟨hk,h⟩:=qzb (show boolC (eqK k .u32) (SI.rec (motive:=fun _=>Option W32) (fun _=>none) (fun _=>none) (fun _=>none) (fun x=>some x) (fun _=>none) n) none=some x from h)
   rw [qbf hk]
   cases n <;> first | (cases h; rfl) | cases h
 . rw [hv] at h; cases h
def unL (l:List SV):Option (List Nat):=List.rec (motive:=fun _=>Option (List Nat)) (some []) (fun v _ ih=>optC (litI v) none fun x=>optC ih none fun xs=>some (x::xs)) l
def ix (l:List Nat):List SV:=mapN (fun n=>.int .i64 (.lit (Int.ofNat n))) l
theorem qzy:∀ {l:List SV} {xs:List Nat},unL l=some xs->l=ix xs
 | [],xs,h=>by cases h; rfl
 | v::l,xs,h=>by
   obtain ⟨x,hx,h⟩:=qaf (show (optC (litI v) none fun x=>optC (unL l) none fun xs=>some (x::xs))=some xs from h)
   obtain ⟨ys,hy,h⟩:=qaf h
   cases h
   rw [qzu hx,qzy hy]; rfl
def q9o (a:List Nat):List Nat->Bool:=List.rec (motive:=fun _=>List Nat->Bool) (fun b=>nilN b) (fun x _ ih b=>List.rec (motive:=fun _=>Bool) false (fun y r _=>boolC (Nat.beq x y) (ih r) false) b) a
theorem qch:∀ {a b:List Nat},q9o a b=true->a=b
 | [],[],_=>rfl
 | [],_::_,h=>by cases h
 | x::a,[],h=>by cases h
 | x::a,y::b,h=>by
   have h:boolC (Nat.beq x y) (q9o a b) false=true:=h
   cases hx:Nat.beq x y with
   | false=>rw [hx] at h; cases h
   | true =>
     rw [hx] at h
     rw [q0b hx,qch h]
theorem q1p (x:W32) (a b:Nat) (h:(a=17/\b=19)\/(a=7/\b=18)):outP [] (qfa cfg0 2000 65 [.int .u32 (.b32 x),.slice ⟨0,.lit 0⟩ (.lit 2) (.lit 2)] [.row (.lst (ix [a,b]))])=([],some (.int .u32 (.b32 (tur2 x a b)),[])):=by
 rcases h with ⟨rfl,rfl⟩ | ⟨rfl,rfl⟩ <;> kernel_rfl
theorem q2p (x:W32) (a b c:Nat) (h:(a=6/\b=11/\c=25)\/(a=2/\b=13/\c=22)):outP [] (qfa cfg0 2000 65 [.int .u32 (.b32 x),.slice ⟨0,.lit 0⟩ (.lit 3) (.lit 3)] [.row (.lst (ix [a,b,c]))])=([],some (.int .u32 (.b32 (tur3 x a b c)),[])):=by
 rcases h with ⟨rfl,rfl,rfl⟩ | ⟨rfl,rfl,rfl⟩ <;> kernel_rfl
def w32R (x:W32):R SumRes:=.ok ⟨.int .u32 (.b32 x),[],[]⟩
def isSl (v:SV) (n:Nat) (f:Nat->R α):R α:=v.asSlice (.stuck 720) fun a l c=>a.off.asLit (.stuck 720) fun o=>boolC (Nat.beq o 0) (l.asLit (.stuck 720) fun m=>boolC (Nat.beq m n) (SC.rec (motive:=fun _=>R α) (fun k=>boolC (Nat.beq k n) (f a.nm) (.stuck 720)) (fun _=>.stuck 720) (fun _ _=>.stuck 720) c) (.stuck 720)) (.stuck 720)
theorem q0y {v:SV} {n:Nat} {f:Nat->R α} {φ:α->Prop} (h:∀ nm,v=.slice ⟨nm,.lit 0⟩ (.lit n) (.lit n)->(f nm).Sat φ):(isSl v n f).Sat φ:=by
 unfold isSl
 rcases asSlice_cases v with ⟨⟨nm,o⟩,l,c,rfl⟩ | hv
 . cases o with
   | lit o =>
     refine qta fun ho => ?_
     cases l with
     | lit m =>
       refine qta fun hm => ?_
       cases c with
       | lit k =>
         refine qta fun hk=>h nm ?_
         rw [q0b ho,q0b hm,q0b hk]
       | sym=>trivial
       | rest=>trivial
     | sym=>trivial
     | byt=>trivial
   | sym=>trivial
   | byt=>trivial
 . rw [hv]; trivial
def turS:Summ:=fun args H _=>qhe args fun v sl=>optC (un32 v) (.stuck 721) fun x =>
 sl.asSlice (.stuck 722) fun _ l _=>l.asLit (.stuck 722) fun n=>boolC (Nat.beq n 2)
  (isSl sl 2 fun nm=>optC (qbe (nth H nm)) (.stuck 723) fun cs=>optC (unL cs) (.stuck 723) fun ns=>boolC (q9o ns [17,19]) (w32R (tur2 x 17 19)) (boolC (q9o ns [7,18]) (w32R (tur2 x 7 18)) (.stuck 723)))
  (isSl sl 3 fun nm=>optC (qbe (nth H nm)) (.stuck 723) fun cs=>optC (unL cs) (.stuck 723) fun ns=>boolC (q9o ns [6,11,25]) (w32R (tur3 x 6 11 25)) (boolC (q9o ns [2,13,22]) (w32R (tur3 x 2 13 22)) (.stuck 723)))
theorem qz7 (f:Nat->Nat):∀ xs,SV.renL f (ix xs)=ix xs
 | []=>rfl
 | x::xs=>by show _::SV.renL f (ix xs)=_; rw [qz7 f xs]; rfl
theorem qi1 (p:Nat->Bool):∀ xs,SV.usesL p (ix xs)=true
 | []=>rfl
 | x::xs=>by show (true && SV.usesL p (ix xs))=true; rw [qi1 p xs]; rfl
theorem turOK:qdb Tryd.prog 65 turS:=by
 intro glob O w0 β H w base args vs hH hG ha
 refine q6b fun v sl hv=>qka fun x hx => ?_
 have key:∀ (nm n:Nat) (cs:List SV) (ns:List Nat) (y:W32),sl=.slice ⟨nm,.lit 0⟩ (.lit n) (.lit n)->qbe (nth H nm)=some cs->unL cs=some ns ->
   outP [] (qfa cfg0 2000 65 [.int .u32 (.b32 x),.slice ⟨0,.lit 0⟩ (.lit n) (.lit n)] [.row (.lst (ix ns))])=([],some (.int .u32 (.b32 y),[]))->(w32R y).Sat (SumSem Tryd.prog H β w base 65 vs):=by
  intro nm n cs ns y hs hc hn hrun
  rw [hv,qbk hx,hs] at ha
  rw [qca] at hc
  have ht:∀ g,∃ e',H[nm]? = some e'/\Taken g (.row (.lst (ix ns))) e':=fun g=>qok hc (by rw [qz7,qzy hn]; exact .refl _)
  exact q3o qqj rfl 2000 hH ⟨[nm],[.row (.lst (ix ns))],[.int .u32 (.b32 x),.slice ⟨0,.lit 0⟩ (.lit n) (.lit n)]⟩ ha
   (Ifc.fits (by simp) rfl ⟨⟨ht _,qi1 _ _⟩,trivial⟩) [] (by simp) (by simp) hrun qba fun _ _=>qls rfl rfl rfl
 rcases asSlice_cases sl with ⟨a,l,c,hsl⟩ | hno
 . rw [hsl]
   show R.Sat (l.asLit _ _) _
   refine SN.asLit_sat (fun n _ => ?_) fun _=>trivial
   rw [← hsl]
   refine q9e (fun _=>q0y fun nm hs=>qka fun cs hcs=>qka fun ns hns => ?_) fun _=>q0y fun nm hs=>qka fun cs hcs=>qka fun ns hns => ?_
   . refine q9e (fun h1 => ?_) fun _=>qta fun h1 => ?_
     . have:=qch h1; subst this
       exact key nm 2 cs _ _ hs hcs hns (q1p x 17 19 (.inl ⟨rfl,rfl⟩))
     . have:=qch h1; subst this
       exact key nm 2 cs _ _ hs hcs hns (q1p x 7 18 (.inr ⟨rfl,rfl⟩))
   . refine q9e (fun h1 => ?_) fun _=>qta fun h1 => ?_
     . have:=qch h1; subst this
       exact key nm 3 cs _ _ hs hcs hns (q2p x 6 11 25 (.inl ⟨rfl,rfl,rfl⟩))
     . have:=qch h1; subst this
       exact key nm 3 cs _ _ hs hcs hns (q2p x 2 13 22 (.inr ⟨rfl,rfl,rfl⟩))
 . rw [hno]; trivial
def qeo (F:W32->W32->W32->W32):Summ:=fun args _ _=>qew args fun a b c=>optC (un32 a) (.stuck 724) fun x=>optC (un32 b) (.stuck 724) fun y=>optC (un32 c) (.stuck 724) fun z=>w32R (F x y z)
theorem qj1 {f:FuncId} {F:W32->W32->W32->W32} (hrun:∀ x y z:W32,outP [] (qfa cfg0 200 f [.int .u32 (.b32 x),.int .u32 (.b32 y),.int .u32 (.b32 z)] [])=([],some (.int .u32 (.b32 (F x y z)),[]))):qdb Tryd.prog f (qeo F):=by
 intro glob O w0 β H w base args vs hH hG ha
 refine q6n fun a b c hv=>qka fun x hx=>qka fun y hy=>qka fun z hz => ?_
 rw [hv,qbk hx,qbk hy,qbk hz] at ha
 exact q3o qqj rfl 200 hH ⟨[],[],[.int .u32 (.b32 x),.int .u32 (.b32 y),.int .u32 (.b32 z)]⟩ ha (q6j rfl) [] (by simp) (by simp) (hrun x y z) qba fun _ _=>qls rfl rfl rfl
def qvf (x y z:W32):W32:=x &&& y ^^^ ((BitVec.ofInt 32 4294967295 ^^^ x) &&& z)
def majW (x y z:W32):W32:=x &&& y ^^^ x &&& z ^^^ y &&& z
theorem jra:qdb Tryd.prog 66 (qeo qvf):=qj1 fun x y z=>by kernel_rfl
theorem majOK:qdb Tryd.prog 67 (qeo majW):=qj1 fun x y z=>by kernel_rfl
def j8c:Cfg:=cfgG qxi (qkc [(65,turS),(66,qeo qvf),(67,qeo majW)])
theorem allS {glob:Nat->Option Nat} {x:FuncId × Summ} {l:List (FuncId × Summ)} (h:SumAt Tryd.prog glob x.1 x.2) (h':∀ y∈l,SumAt Tryd.prog glob y.1 y.2):∀ y∈x::l,SumAt Tryd.prog glob y.1 y.2:=by
 intro y hy
 rcases List.mem_cons.1 hy with rfl | hy
 . exact h
 . exact h' y hy
theorem jsf:CfgOK j8c:=qie (allS (turOK _) (allS (jra _) (allS (majOK _) (by simp))))
end
end Go.Proofs.YthkgcljngalafaaDoor.Aes
