/-
  Texts behind one another: the symbolic simulator and what it is told of the program.
-/
import Derived.Test.YthkgcljngalafaaDoorZsNur7
import Derived.Test.YthkgcljngalafaaDoorZsSha3
import Derived.Test.YthkgcljngalafaaDoorRows
import Derived.Lib.LaidPrint
import Derived.Lib.LaidTab
import Derived.MakeChecks
import Derived.Test.YthkgcljngalafaaDoorPs9
namespace Go.Proofs.YthkgcljngalafaaDoor.Aes
noncomputable section
open Go.Sim
open Go.Proofs
open Go.RowKit
variable {α:Type}
set_option maxRecDepth 1000000
theorem q5f (X:Nat->BitVec 8):lsX X=X:=by
 funext i
 show X (0+i)=X i
 rw [Nat.zero_add]
theorem q8y {F G:Nat->SV} {k:Nat} {f:Nat->Nat} (h:∀ j,F j=(G j).ren f):(Cells.fn F k).Imp ((Cells.fn G k).ren f):=by
 intro β vs hv
 exact ⟨hv.1,fun i x hx=>by
  show ((G i).ren f).den β=some x
  rw [← h i]
  exact hv.2 i x hx⟩
theorem jmb {F G:Nat->SV} {n k:Nat} (hn:n=k) (h:∀ j,j<k->F j=G j):qkd F 0 n=qkd G 0 k:=by
 subst hn
 unfold qkd
 congr 2
 refine List.map_congr_left fun j hj => ?_
 rw [List.mem_range] at hj
 rw [Nat.zero_add,h j hj]
def upB (Y:Nat->BitVec 8) (i:Nat):Nat->BitVec 8:=fun j=>if j=i then Y i+1#8 else Y j
theorem jwi {Y:Nat->BitVec 8} {i:Nat} (f:Nat->Nat) (j:Nat):lsF Y i j=(qna (upB Y i) j).ren f:=by
 unfold lsF upB
 rw [Nat.zero_add,Nat.mul_one]
 show _=SV.int .u8 (.b8 (if j=i then _ else _))
 split
 . rfl
 . rfl
section
variable {X:Nat->BitVec 8} {n k c:Nat}
def q5s (X:Nat->BitVec 8) (n k c:Nat):Prop:=Runs cfgLs 3 [.slice ⟨4,.lit 0⟩ (.sym k) (.sym c)] (shaH [rowF X n]) fun v _=>v=.bool (.lit true)
theorem ls_Q {i:Nat} (hi:i<k) (hz:k<=1000):∀ p∈lsQ k i,p :=
 all_cons (decide_eq_true (by omega)) (all_cons ⟨by omega,by omega⟩ (all_cons (by omega) (all_cons ⟨by omega,by omega⟩ (all_cons (by omega) (all_cons ⟨by omega,by omega⟩ qba)))))
theorem ls_A (hk:k<=n) (hz:k<=1000) (h0:k≠0) {r:List Prop} (hr:∀ p∈r,p):∀ p∈lsA X n k r,p :=
 all_cons (decide_eq_false (by omega)) (all_cons (by omega) (all_cons (decide_eq_false h0) (all_cons ⟨⟨by omega,by omega⟩,rfl⟩ (all_cons (qic fun i=>X (0+i)) (all_cons ⟨rfl,by omega⟩ hr)))))
theorem ls_B (hk:k<=n) (hz:k<=1000) {r:List Prop} (hr:∀ p∈r,p):∀ p∈lsB X n k r,p:=all_cons (qic _) (all_cons ⟨hk,by omega⟩ hr)
theorem ls_O {names:List Nat} {N:Nat} {C:Cut} (h:C.heap[5]? = some (.ent (lsY X k))):∀ e∈lsO X k,∀ E0,C.heap[e.1]? = some E0->ImpE (qbb names N) (some e.2) E0:=fun e he E0 hE0=>by
 obtain rfl:=List.mem_singleton.1 he
 obtain rfl:=Option.some.inj (h.symm.trans hE0)
 exact ⟨_,rfl,q8y fun j=>by show qna X (0+j)=qna X j; rw [Nat.zero_add]⟩
theorem qx4 {names:List Nat} {N:Nat} {C:Cut} {Y:Nat->BitVec 8} {i:Nat} (h:C.heap[5]? = some (.ent (lsY (upB Y i) k))):∀ e∈lsOF k Y i,∀ E0,C.heap[e.1]? = some E0->ImpE (qbb names N) (some e.2) E0:=fun e he E0 hE0=>by
 obtain rfl:=List.mem_singleton.1 he
 obtain rfl:=Option.some.inj (h.symm.trans hE0)
 exact ⟨_,rfl,q8y fun j=>jwi _ j⟩
theorem q9t (hz:k<=1000) {e:Int} (he:e=4\/e=5\/e=6) {ds:List Bool} {ps:List Prop} (hp:∀ p∈ps,p)
  (h:∀ z,outL [] (lsE X n k c e X 0) ls7 (lsT X n k c (some (1,0))) ds z=(ps,some (.inr (qeb lsM0 (lsO X k) (qqa ls7 7 (lsE X n k c e X 0)))))):q5s X n k c:=by
 refine quc qhl (fun a:(Nat->BitVec 8) × Nat=>lsE X n k c e a.1 a.2) (fun a=>a.2<=k) (fun a=>k - a.2) (fun g nm hg=>Nat.lt_of_lt_of_le (qwj hg) (by show 3<=5; omega)) ?_ fun a ha J => ?_
 . refine qwc (some (1,0)) 20000 (X,0) (Nat.zero_le _) h (jkd X n k c X 0 e he) (fun q hq p v hp hv => ?_) (ls_O rfl) hp
   obtain rfl:=List.mem_singleton.1 hq
   exact qtd (ls_eT X n k c X 0 e he) hp hv (qza rfl)
 . obtain ⟨Y,i⟩:=a
   have ha:i<=k:=ha
   by_cases hi:i<k
   . exact qfg (some (1,0)) 20000 (upB Y i,i+1) ⟨hi,by show k - (i+1)<k - i; omega⟩ (fun z=>ls_eN X n k c Y i J z e (upB Y i) he) (jkd X n k c (upB Y i) (i+1) e he) (fun q hq=>by cases hq) (qx4 rfl) (ls_Q hi hz)
   . exact q7b (js:=[]) (names:=ls7) (M:=lsE X n k c e Y i) none 20000 (fun z=>ls_eE X n k c Y i J z e he) (all_cons (decide_eq_false (by omega)) qba) fun H _=>rfl
theorem jgg (hk:k<=n) (hz:k<=1000) (h0:k≠0) (hs:¬ qrc X k) (hl:¬ qsd X k) (hh:HeadOK X) (he:qcd X):q5s X n k c:=by
 obtain ⟨hw,hL⟩:=j3c hh he
 have hkn:40+40 * cntI X=k:=by
  unfold qrc at hs
  unfold qsd at hl
  omega
 have hgd:∀ {b:Bool},(lkX X (cntI X)).isEmpty=b->∀ p∈lsGd X n k b,p:=fun {b} hb =>
  ls_A hk hz h0 (all_cons (by rw [q5f]; exact qtb hs) (all_cons (by rw [q5f]; exact qtb hl) (all_cons (by rw [q5f]; exact q3c ⟨hh,he⟩) (ls_B hk hz (all_cons (qtb hs) (all_cons (qtb hl) (all_cons (q3c ⟨hh,he⟩) (all_cons hb qba))))))))
 have hlen:(lsD (bnI X 0) (bnI X 8) (bnI X 16) (bnI X 24 - 1) (esX X (cntI X)) (cntI X)).n=k:=by
  show 40+40 * (esX X (cntI X)).length=k
  rw [qyt]; exact hkn
 have hstr:qkd (qna (lsD (bnI X 0) (bnI X 8) (bnI X 16) (bnI X 24 - 1) (esX X (cntI X)) (cntI X)).x) 0 (lsD (bnI X 0) (bnI X 8) (bnI X 16) (bnI X 24 - 1) (esX X (cntI X)) (cntI X)).n=qkd (qna X) 0 k :=
  jmb hlen fun j hj=>by
   show SV.int .u8 (.b8 (qxy X j))=_
   rw [joa hh he j (by omega)]
   rfl
 have hZ:∀ {i:Nat} {D:RfD},¬ i<k->agW (lsD (bnI X 0) (bnI X 8) (bnI X 16) (bnI X 24 - 1) (esX X (cntI X)) (cntI X)) D->∀ p∈lsZ X n k (bnI X 0) (bnI X 8) (bnI X 16) (bnI X 24 - 1) (esX X (cntI X)) (cntI X) i D,p:=fun hi hD =>
  all_cons (decide_eq_false (by omega)) (all_cons hD (all_cons hw (all_cons ⟨by omega,fun _ _=>trivial⟩ (all_cons ⟨by omega,fun _ _=>trivial⟩ (all_cons (decide_eq_true hstr) qba)))))
 have hOG:∀ {names:List Nat} {N nm:Nat} {C:Cut},qbb names N 7=7->C.heap[5]? = some (.ent (lsY X k))->C.heap[6]? = some (.ent (chO 7 (bnI X 0) (bnI X 8) (bnI X 16) (bnI X 24 - 1)))->C.heap[7]? = some (.ent (.obj (.amap kMk uMk (esX X (cntI X)) (cntI X))))->∀ e∈lsOG X k,∀ E0,C.heap[e.1]? = some E0->ImpE (qbb names N) (some e.2) E0:=fun {names N nm C} h7 h5 h6 hm e hq E0 hE0=>by
  unfold lsOG at hq
  rw [q5f] at hq
  rcases List.mem_cons.1 hq with rfl | hq
  . obtain rfl:=Option.some.inj (h6.symm.trans hE0)
    refine ⟨_,rfl,?_⟩
    show (Cells.lst [.int .i64 (.sym (bnI X 0)),.int .i64 (.sym (bnI X 8)),.int .i64 (.sym (bnI X 16)),.int .i64 (.sym (bnI X 24 - 1)),.map 7]).Imp (.lst [.int .i64 (.sym (bnI X 0)),.int .i64 (.sym (bnI X 8)),.int .i64 (.sym (bnI X 16)),.int .i64 (.sym (bnI X 24 - 1)),.map (qbb names N 7)])
    rw [h7]
    exact fun γ vs hv=>hv
  rcases List.mem_cons.1 hq with rfl | hq
  . obtain rfl:=Option.some.inj (hm.symm.trans hE0)
    exact ⟨_,rfl,fun γ vs hv=>hv⟩
  . exact ls_O h5 e hq E0 hE0
 cases hem:(lkX X (cntI X)).isEmpty with
 | true =>
   have hD:agW (lsD (bnI X 0) (bnI X 8) (bnI X 16) (bnI X 24 - 1) (esX X (cntI X)) (cntI X)) (doRN (bnI X 0) (bnI X 8) (bnI X 16) (bnI X 24 - 1)):=agW_N hw (hL.trans (List.isEmpty_iff.1 hem))
   refine quc qhl (fun a:(Nat->BitVec 8) × Nat=>lsG0 X n k c true a.1 a.2) (fun a=>a.2<=k) (fun a=>k - a.2) (fun g nm hg=>Nat.lt_of_lt_of_le (qwj hg) (by show 3<=5; omega)) ?_ fun a ha J => ?_
   . refine qwc (some (1,0)) 20000 (X,0) (Nat.zero_le _) (fun z=>ls_g0 X n k c z) (ql8 X n k c _ _ _ _ _ _ _ X 0) (fun q hq p v hp hv => ?_) (hOG (nm:=0) rfl rfl rfl rfl) (hgd hem)
     obtain rfl:=List.mem_singleton.1 hq
     exact qtd (jjd X n k c _ _ _ _ _ _ _ X 0 true) hp hv (qza rfl)
   . obtain ⟨Y,i⟩:=a
     have ha:i<=k:=ha
     by_cases hi:i<k
     . exact qfg (some (1,0)) 20000 (upB Y i,i+1) ⟨hi,by show k - (i+1)<k - i; omega⟩ (fun z=>jsi X n k c _ _ _ _ _ _ _ Y i J z (upB Y i)) (ql8 X n k c _ _ _ _ _ _ _ (upB Y i) (i+1)) (fun q hq=>by cases hq) (qx4 rfl) (ls_Q hi hz)
     . exact q7b (js:=[]) (names:=nmN [5,6,7,8]) (M:=lsG0 X n k c true Y i) none 20000 (fun z=>jui X n k c _ _ _ _ _ _ _ Y i J z) (hZ hi hD) fun H _=>rfl
 | false =>
   have hD:agW (lsD (bnI X 0) (bnI X 8) (bnI X 16) (bnI X 24 - 1) (esX X (cntI X)) (cntI X)) (doRL (bnI X 0) (bnI X 8) (bnI X 24 - 1) (bnI X 16) 9 (lkX X (cntI X))):=agW_L hw hL
   refine quc qhl (fun a:(Nat->BitVec 8) × Nat=>lsG0 X n k c false a.1 a.2) (fun a=>a.2<=k) (fun a=>k - a.2) (fun g nm hg=>Nat.lt_of_lt_of_le (qwj hg) (by show 3<=5; omega)) ?_ fun a ha J => ?_
   . refine qwc (some (1,0)) 20000 (X,0) (Nat.zero_le _) (fun z=>ls_g1 X n k c z) (qm8 X n k c _ _ _ _ _ _ _ X 0 _ (.inr rfl)) (fun q hq p v hp hv => ?_) (hOG (nm:=0) rfl rfl rfl rfl) (hgd hem)
     obtain rfl:=List.mem_singleton.1 hq
     exact qtd (jjd X n k c _ _ _ _ _ _ _ X 0 false) hp hv (qza rfl)
   . obtain ⟨Y,i⟩:=a
     have ha:i<=k:=ha
     by_cases hi:i<k
     . exact qfg (some (1,0)) 20000 (upB Y i,i+1) ⟨hi,by show k - (i+1)<k - i; omega⟩ (fun z=>jti X n k c _ _ _ _ _ _ _ Y i J z (upB Y i)) (qm8 X n k c _ _ _ _ _ _ _ (upB Y i) (i+1) _ (.inl rfl)) (fun q hq=>by cases hq) (qx4 rfl) (ls_Q hi hz)
     . exact q7b (js:=[]) (names:=nmN [5,6,7,8,9]) (M:=lsG0 X n k c false Y i) none 20000 (fun z=>jvi X n k c _ _ _ _ _ _ _ Y i J z) (hZ hi hD) fun H _=>rfl
theorem qn8 {ds:List Bool} {ps:List Prop} (h:outO [] (lsT X n k c none) ds=(ps,some (.bool (.lit true),[]))) (hp:∀ p∈ps,p):q5s X n k c :=
 q8i qhl (n:=20000) (q2b (t:=qfa cfgLs 20000 3 [.slice ⟨4,.lit 0⟩ (.sym k) (.sym c)] (shaH [rowF X n])) h hp fun _ _=>rfl)
theorem jnb (hk:k<=n):q5s X n k c:=by
 by_cases hz:k<=1000
 . by_cases h0:k=0
   . exact qn8 (jfg X n k c) (all_cons (decide_eq_false (by omega)) (all_cons (by omega) (all_cons (decide_eq_true h0) (all_cons rfl (all_cons (qic _) (all_cons ⟨hk,by omega⟩ (all_cons (q3c (.inl (by omega))) qba)))))))
   by_cases hs:qrc X k
   . exact q9t hz (.inl rfl) (ls_A hk hz h0 (all_cons (by rw [q5f]; exact q3c hs) (ls_B hk hz (all_cons (q3c hs) qba)))) (fun z=>ls_4 X n k c z)
   by_cases hl:qsd X k
   . exact q9t hz (.inr (.inl rfl)) (ls_A hk hz h0 (all_cons (by rw [q5f]; exact qtb hs) (all_cons (by rw [q5f]; exact q3c hl) (ls_B hk hz (all_cons (qtb hs) (all_cons (q3c hl) qba)))))) (fun z=>ls_5 X n k c z)
   by_cases hh:HeadOK X/\qcd X
   . exact jgg hk hz h0 hs hl hh.1 hh.2
   . exact q9t hz (.inr (.inr rfl)) (ls_A hk hz h0 (all_cons (by rw [q5f]; exact qtb hs) (all_cons (by rw [q5f]; exact qtb hl) (all_cons (by rw [q5f]; exact qtb hh) (ls_B hk hz (all_cons (qtb hs) (all_cons (qtb hl) (all_cons (qtb hh) qba))))))))
      (fun z=>ls_6 X n k c z)
 . exact qn8 (jeg X n k c) (all_cons (decide_eq_true (by omega)) qba)
end
theorem loads_law {w:World} {β:Val} (hH:HeapRel Tryd.prog (fun _=>False) w β (shaH []) w) (hG:GlobRel qxd β) {a0:Option Addr} {len0 cap0:Nat} {X:Nat->BitVec 8} (h0:ByteRow w a0 len0 cap0 X) :
  Calls Tryd.prog 3 #[.slice a0 len0 cap0] w fun e w'=>e=.returned (.bool true)/\Below w.heap.size w w':=by
 rcases h0 with ⟨rfl,rfl,rfl⟩ | ⟨x,rfl,hsx,hlx,hcap,hcx⟩
 . exact qhy hH hG (denL_cons.2 ⟨_,_,rfl,rfl,rfl⟩) (q8i qhl (n:=20000) (q2b (t:=qfa cfgLs 20000 3 [.nilSlice] (shaH [])) jri qba fun _ _=>rfl))
 . obtain ⟨β1,hH1,hle,hd⟩:=q16 (P:=Tryd.prog) hH hsx hlx hcx
   exact qhy hH1 (hG.mono hle) (denL_cons.2 ⟨_,_,hd,rfl,rfl⟩) (jnb (X:=X) (n:=cap0) (k:=len0) (c:=cap0) hlx)
end
noncomputable section
open Go.Sim
open Go.Proofs
theorem HeapRel.rows {P:Program} {W:World} {β:Val} {H:List SO} (h:∀ n e,H[n]? = some e->∃ c,e=.row c/\q9w (fun _=>False) W β n c) (hb:∀ n,H.length<=n->β n=none):HeapRel P (fun _=>False) W β H W:=by
 refine ⟨⟨fun n e hn => ?_,fun n m e e' l l' hn hm ho ho' => ?_,fun n e l hn ho => ?_,⟨rfl,rfl,rfl,Nat.le_refl _,Nat.le_refl _,fun _ _ _=>rfl⟩⟩,hb⟩
 . obtain ⟨c,rfl,hc⟩:=h n e hn; exact hc
 . obtain ⟨c,rfl,hc⟩:=h n e hn; cases ho
 . obtain ⟨c,rfl,hc⟩:=h n e hn; cases ho
theorem qo8 {γ:Val} (k:IntKind):∀ T:List Nat,SV.denL γ (kx k T)=some (T.map fun n=>Value.int k (Int.ofNat n))
 | []=>rfl
 | _::T=>denL_cons.2 ⟨_,_,rfl,qo8 k T,rfl⟩
theorem qq1 {W:World} {a:Addr} {x:Value} (h:W.cell? a=some x):a.block<W.heap.size:=by
 by_cases hb:a.block<W.heap.size
 . exact hb
 . unfold World.cell? at h
   have hn:W.heap[a.block]? = none:=Array.getElem?_eq_none (by omega)
   simp only [hn] at h
   cases h
theorem q9y {W:World} {β:Val} {n:Nat} {l:Sim.Loc} {k:IntKind} {L:List Nat} (hl:β n=some l) (hc:∀ i,i<L.length->W.cell? ⟨l.blk,l.off+i,none⟩=some (.int k ((L.getD i 0:Nat):Int))):q9w (fun _=>False) W β n (.lst (kx k L)):=by
 refine ⟨l,_,hl,qo8 k L,fun i x hx => ?_⟩
 rw [List.getElem?_map] at hx
 cases hi:L[i]? with
 | none=>rw [hi] at hx; cases hx
 | some t =>
   rw [hi] at hx; cases hx
   have hlt:i<L.length:=(List.getElem?_eq_some_iff.1 hi).1
   have hcell:=hc i hlt
   have e:L.getD i 0=t:=by rw [List.getD_eq_getElem?_getD,hi]; rfl
   rw [e] at hcell
   exact ⟨qq1 hcell,fun f=>f,hcell⟩
theorem qp8 {P:Program} {w:World} {name:String} {g:Nat} {t e:TypeId} {k:IntKind} {n:Nat} {L:List Nat} (hn:P.globalNamed name=some g) (hy:(P.globals[g]?).map (·.type)=some t) (ht:P.underlying t=some (.array n e)) (he:P.underlying e=some (.int k)) (hce:P.cellsOf e=1) (hct:P.cellsOf t=n)
  (h:Lib.VarReads P w name (Lib.tabData k (L.map Int.ofNat))):∀ i,i<L.length->w.cell? ⟨g,i,none⟩=some (.int k ((L.getD i 0:Nat):Int)):=by
 obtain ⟨g',t',cs,fuel,p,hg,hty,hvar,hd⟩:=h
 obtain rfl:=Option.some.inj (hn.symm.trans hg)
 obtain rfl:=Option.some.inj (hy.symm.trans hty)
 intro i hi
 have hT:Lib.TabIs P w name k (L.map Int.ofNat):=by
  unfold Lib.TabIs
  rw [hvar,← Lib.cells_of_tab ht he hce hct hd]
 have:=hT.cell hn i (by simpa using hi)
 rw [this]
 simp [List.getD_eq_getElem?_getD,List.getElem?_eq_getElem hi]
theorem job {P:Program} {w:World} {name:String} {g:Nat} {t e:TypeId} {k:IntKind} {l:List Nat} (hn:P.globalNamed name=some g) (hy:(P.globals[g]?).map (·.type)=some t)
  (ht:P.underlying t=some (.slice e)) (he:P.underlying e=some (.int k)) (hc:P.cellsOf e=1) (hl:0<l.length) (h:Lib.VarReads P w name (Lib.sliceData k l)) :
  ∃ R o:Nat,w.cell? ⟨g,0,none⟩=some (.slice (some ⟨R,o,none⟩) l.length l.length)/\∀ j,j<l.length->w.cell? ⟨R,o+j,none⟩=some (.int k (l.getD j 0)):=by
 obtain ⟨R,o,c,h1,h2⟩:=Lib.tabSlice_of_reads hn hy ht he hc hl h
 refine ⟨R,o,?_,h2⟩
 obtain ⟨g',t',cs,fuel,p,hg,hty,hvar,hd⟩:=h
 obtain rfl:=Option.some.inj (hn.symm.trans hg)
 obtain rfl:=Option.some.inj (hy.symm.trans hty)
 rcases DataW.trod_slice ht hd with ⟨_,hx⟩ | ⟨a,len,cap,el,rs,m,rfl,hcs,hx,_,hlc,_,hel,helem,hsp,_⟩
 . cases hx
 have e0:=congrArg Prod.fst hx
 simp only [Lib.sliceData,DataW.slice.injEq] at e0
 obtain ⟨eE,eR⟩:=e0
 have hlen:len=l.length:=by
  have:=congrArg List.length eE
  simp at this
  omega
 have hr:=(hsp rfl).1
 have hr0:rs.length=0:=by
  have:=congrArg List.length eR
  simp at this
  simp [this]
 have hcap:cap=l.length:=by omega
 have h3:w.cell? ⟨g,0,none⟩=some (.slice (some a) l.length l.length):=by
  rw [World.var?_cell hg hvar 0,← Array.getElem?_toList,hcs,hlen,hcap]
  rfl
 rw [h1] at h3
 cases h3
 exact h1
end
noncomputable section
open Go.Sim
open Go.Proofs
theorem sha_start {W:World} (hL:laidMetH Tryd.prog [("watchword/watchwordref04.constants",Rows.laid_watchword_watchwordref04_constants),("watchword/sha.start",Rows.laid_watchword_sha_start),("watchword/sha.constants",Rows.laid_watchword_sha_constants)] W) :
  ∃ β,HeapRel Tryd.prog (fun _=>False) W β (shaH []) W/\GlobRel qxd β:=by
 rw [MakeChecks.laidMetH_plain _ _ _ (by kernel_rfl)] at hL
 have e1:(Rows.laid_watchword_watchwordref04_constants:DataW Unit)=Lib.sliceData .i64 constL:=by kernel_rfl
 have e2:(Rows.laid_watchword_sha_start:DataW Unit)=Lib.tabData .u32 (startL.map Int.ofNat):=by kernel_rfl
 have e3:(Rows.laid_watchword_sha_constants:DataW Unit)=Lib.tabData .u32 (constL.map Int.ofNat):=by kernel_rfl
 rw [e1,e2,e3] at hL
 have r1:=Lib.laidMet.reads hL (n := "watchword/watchwordref04.constants") (d:=Lib.sliceData .i64 constL) (by simp)
 have r2:=Lib.laidMet.reads hL (n := "watchword/sha.start") (d:=Lib.tabData .u32 (startL.map Int.ofNat)) (by simp)
 have r3:=Lib.laidMet.reads hL (n := "watchword/sha.constants") (d:=Lib.tabData .u32 (constL.map Int.ofNat)) (by simp)
 have t2:=qp8 (g:=0) (t:=97) (e:=95) (n:=8) (by kernel_rfl) (by kernel_rfl) (by kernel_rfl) (by kernel_rfl) (by kernel_rfl) (by kernel_rfl) r2
 have t3:=qp8 (g:=2) (t:=110) (e:=95) (n:=64) (by kernel_rfl) (by kernel_rfl) (by kernel_rfl) (by kernel_rfl) (by kernel_rfl) (by kernel_rfl) r3
 obtain ⟨R,o,c1,c2⟩:=job (g:=1) (t:=107) (e:=3) (by kernel_rfl) (by kernel_rfl) (by kernel_rfl) (by kernel_rfl) (by kernel_rfl) (by decide) r1
 have hc64:constL.length=64:=rfl
 rw [hc64] at c1
 let β:Val:=fun n=>match n with
  | 0=>some (Sim.Loc.mk 0 0 0)
  | 1=>some (Sim.Loc.mk 2 0 0)
  | 2=>some (Sim.Loc.mk 1 0 0)
  | 3=>some (Sim.Loc.mk R o 0)
  | _=>none
 refine ⟨β,HeapRel.rows (fun n e hn => ?_) fun n hn => ?_,fun g nm hg => ?_⟩
 . match n,hn with
   | 0,hn=>cases hn; exact ⟨_,rfl,q9y (l:=Sim.Loc.mk 0 0 0) rfl fun i hi=>by rw [show (Sim.Loc.mk 0 0 0).off+i=i from Nat.zero_add i]; exact t2 i hi⟩
   | 1,hn=>cases hn; exact ⟨_,rfl,q9y (l:=Sim.Loc.mk 2 0 0) rfl fun i hi=>by rw [show (Sim.Loc.mk 2 0 0).off+i=i from Nat.zero_add i]; exact t3 i hi⟩
   | 2,hn =>
     cases hn
     refine ⟨_,rfl,Sim.Loc.mk 1 0 0,[.slice (some ⟨R,o,none⟩) 64 64],rfl,?_,fun i x hx => ?_⟩
     . show SV.denL β [.slice ⟨3,.lit 0⟩ (.lit 64) (.lit 64)]=_
       rfl
     . cases i with
       | zero =>
         cases hx
         exact ⟨qq1 c1,fun f=>f,c1⟩
       | succ i=>simp at hx
   | 3,hn=>cases hn; exact ⟨_,rfl,q9y (l:=Sim.Loc.mk R o 0) rfl fun i hi=>c2 i hi⟩
   | n+4,hn=>simp [shaH] at hn
 . match n,hn with
   | n+4,_=>rfl
   | 0,hn=>simp [shaH] at hn
   | 1,hn=>simp [shaH] at hn
   | 2,hn=>simp [shaH] at hn
   | 3,hn=>simp [shaH] at hn
 . rcases qpc (show boolC (Nat.beq g 0) (some 0) _=some nm from hg) with ⟨h1,h2⟩ | h
   . cases h2; exact ⟨_,rfl,(q0b h1).symm,rfl⟩
   . rcases qpc (show boolC (Nat.beq g 2) (some 1) _=some nm from h) with ⟨h1,h2⟩ | h
     . cases h2; exact ⟨_,rfl,(q0b h1).symm,rfl⟩
     . obtain ⟨h1,h2⟩:=qzb (show boolC (Nat.beq g 1) (some 2) none=some nm from h)
       cases h2; exact ⟨_,rfl,(q0b h1).symm,rfl⟩
end
end Go.Proofs.YthkgcljngalafaaDoor.Aes
