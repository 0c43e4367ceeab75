/-
  The reference's keyed hash: HMAC for keys of 16 or 32 bytes.
-/
import Derived.Test.YtcpafideogckmaaGreatDoorPc17
namespace Go.Proofs.YtcpafideogckmaaGreatDoor.Aes
noncomputable section
open Go.Sim
open Go.Proofs
variable {α:Type}
set_option maxRecDepth 1000000
def rhI (k:Sl) (n:Nat) (b:Sl):Nat->BitVec 8:=catB (fun i=>qba (rbL k n 0x36#8) (0+i)) 64 (fun i=>b.X (b.o+i))
def rhO (F:HashF) (k:Sl) (n:Nat) (I:Nat->BitVec 8) (l:Nat):List (BitVec 8):=F (fun i=>qba (app (rbL k n 0x5c#8) (tabB (qba (F (fun i=>I (0+i)) l)) 32)) (0+i)) 96
def rhR (j:Nat) (L:List (BitVec 8)):Option (SV × List (Option SO)):=some (mkV j,[some (mkE L)])
section
variable (F:HashF) (k b:Sl) (m m2:Nat)
theorem jwi:outO [11] (rhT F (k.pl m) 16 ((b.pl m2).val 5) [(b.pl m2).row]) []=([IsB (qea k.X),k.o+16<=k.N,b.o+b.n<=b.N/\IsB (qea b.X),64<=64,64<64+b.n/\((64+b.n) * 1<70368744177664/\64+b.n<70368744177664)/\1=1,IsB (qea (rhI k 16 b)),0+(64+b.n)<=64+b.n/\64+b.n<=1099511627776,IsB (qea k.X),k.o+16<=k.N,96<=96/\96<=1099511627776],rhR 11 (rhO F k 16 (rhI k 16 b) (64+b.n))):=by kernel_rfl
theorem jxi:outO [9] (rhT F (k.pl m) 16 .nilSlice []) []=([IsB (qea k.X),k.o+16<=k.N,64<=64/\64<=1099511627776,IsB (qea k.X),k.o+16<=k.N,96<=96/\96<=1099511627776],rhR 9 (rhO F k 16 (qba (rbL k 16 0x36#8)) 64)):=by kernel_rfl
theorem jze:outO [10] (rhT F (k.pl m) 16 ((b.pl m2).valN 5 0) [(b.pl m2).row]) []=([IsB (qea k.X),k.o+16<=k.N,b.o+0<=b.N,64<=64/\64<=1099511627776,IsB (qea k.X),k.o+16<=k.N,96<=96/\96<=1099511627776],rhR 10 (rhO F k 16 (qba (rbL k 16 0x36#8)) 64)):=by kernel_rfl
theorem jyi:outO [11] (rhT F (k.pl m) 32 ((b.pl m2).val 5) [(b.pl m2).row]) []=([IsB (qea k.X),k.o+32<=k.N,b.o+b.n<=b.N/\IsB (qea b.X),64<=64,64<64+b.n/\((64+b.n) * 1<70368744177664/\64+b.n<70368744177664)/\1=1,IsB (qea (rhI k 32 b)),0+(64+b.n)<=64+b.n/\64+b.n<=1099511627776,IsB (qea k.X),k.o+32<=k.N,96<=96/\96<=1099511627776],rhR 11 (rhO F k 32 (rhI k 32 b) (64+b.n))):=by kernel_rfl
theorem jzi:outO [9] (rhT F (k.pl m) 32 .nilSlice []) []=([IsB (qea k.X),k.o+32<=k.N,64<=64/\64<=1099511627776,IsB (qea k.X),k.o+32<=k.N,96<=96/\96<=1099511627776],rhR 9 (rhO F k 32 (qba (rbL k 32 0x36#8)) 64)):=by kernel_rfl
theorem j0e:outO [10] (rhT F (k.pl m) 32 ((b.pl m2).valN 5 0) [(b.pl m2).row]) []=([IsB (qea k.X),k.o+32<=k.N,b.o+0<=b.N,64<=64/\64<=1099511627776,IsB (qea k.X),k.o+32<=k.N,96<=96/\96<=1099511627776],rhR 10 (rhO F k 32 (qba (rbL k 32 0x36#8)) 64)):=by kernel_rfl
end
theorem j1e {l r:List (BitVec 8)} {i:Nat}:qba (app l r) i=if i<l.length then qba l i else qba r (i - l.length):=by
 unfold qba
 rw [qib]
 by_cases h:i<l.length
 . rw [if_pos h,List.getElem?_append_left h]
 . rw [if_neg h,List.getElem?_append_right (by omega)]
theorem qcu (X:Nat->BitVec 8) (n:Nat):(tabB X n).length=n:=by
 unfold tabB; rw [qwa,List.length_map,q2c,List.length_range']
theorem qix {k:Sl} {n:Nat} {x:BitVec 8} {i:Nat} (hn:n<=64) (hi:i<64):qba (rbL k n x) i=xorP shaF k.F n x i:=by
 unfold rbL
 rw [qqc hi]
 unfold xorP keyP
 rw [if_pos hn]
 rfl
theorem qv3 {k:Sl} {n:Nat} {I M:Nat->BitVec 8} {m:Nat} (hn:n<=64) (hI:∀ i,i<64+m->I i=catF (xorP shaF k.F n 0x36#8) 64 M i):rhO shaF k n I (64+m)=macB shaF k.F n M m:=by
 unfold rhO macB
 have h1:shaF (fun i=>I (0+i)) (64+m)=shaF (catF (xorP shaF k.F n 0x36#8) 64 M) (64+m):=q9p fun i hi=>by rw [Nat.zero_add,hI i hi]
 rw [h1]
 refine q9p fun i hi => ?_
 have h64:(rbL k n 0x5c#8).length=64:=qcu _ _
 rw [Nat.zero_add,j1e,h64]
 unfold catF
 by_cases c:i<64
 . rw [if_pos c,if_pos c,qix hn c]
 . rw [if_neg c,if_neg c,qqc (by omega)]
theorem j0u {k b:Sl} {n:Nat} (hn:n<=64):∀ i,i<64+b.n->rhI k n b i=catF (xorP shaF k.F n 0x36#8) 64 b.F i:=fun i _=>by
 unfold rhI catB catF
 by_cases c:i<64
 . rw [if_pos c,if_pos c]
   show qba (rbL k n 54#8) (0+i)=_
   rw [Nat.zero_add,qix hn c]
 . rw [if_neg c,if_neg c]; rfl
def rhmS (F:HashF):Summ:=fun args H base=>qdd args fun kv bv=>shaT H (qoi H kv fun k kn n=>boolC (boolC (Nat.beq n 16) true (Nat.beq n 32)) (txtL H bv fun b bn=>boolC (qrc (kn::optL bn)) (.need (k.o+n<=k.N/\okL b/\b.n<=1099511627712) (.ok ⟨mkV base,[],[mkE (tagS F (k.len n) b)]⟩)) (.stuck 861)) (.stuck 861))
theorem q89:SumAt Tryz.prog qud 36 (rhmS shaF):=by
 intro O w0 β H w base args vs hH hG ha
 refine qnb fun kv bv hv=>qzg fun hT=>q6e fun k kn n hn1 ht1 hi1 hkn=>qfa fun h12=>qt3 (fun hnil=>qfa fun hd=>fun ⟨hle,_⟩ => ?_) fun b bn hn2 ht2 hi2=>qfa fun hd=>fun ⟨hle,hb,hbig⟩ => ?_
 . subst hnil
   rw [hv] at ha
   obtain ⟨xk,ys,hxk,hys,rfl⟩:=denL_cons.1 ha
   obtain ⟨m,hks⟩:=Sl.valN_den (hi1 _ _ hxk)
   have key:∀ {n:Nat} {cs},n<=64->((k.pl m).valN kn n).den β=some xk->outO [9] (rhT shaF (k.pl m) n .nilSlice []) []=(cs,rhR 9 (rhO shaF k n (qba (rbL k n 0x36#8)) 64))->(∀ q∈cs,q)->q4a Tryz.prog H β w base 36 (xk::ys) ⟨mkV base,[],[mkE (tagS shaF (k.len n) nilSl)]⟩:=by
    intro n cs hn64 hks hr hc
    have hE:rhO shaF k n (qba (rbL k n 0x36#8)) 64=tagS shaF (k.len n) nilSl:=qv3 (m:=0) hn64 fun i hi=>by
     rw [qix hn64 (by omega)]; unfold catF; rw [if_pos (by omega)]
    rw [hE] at hr
    refine qka qh6 8000 hH (shaI [kn] [k.row] [(k.pl m).valN 4 n,.nilSlice]) (qae hG) ?_ (Ifc.fits (nd4 hd (by simp only [optL,optC,List.mem_cons,List.not_mem_nil,or_false]; rintro x rfl; assumption)) ?_ (q5e hT ⟨⟨ht1 _,k.row_uses _⟩,trivial⟩)) [9] (by simp [shaI]) (by simp) hr hc fun H2 hH2=>q09 rfl rfl (List.cons.inj hH2).1
    . show SV.denL β [((k.pl m).valN 4 n).ren _,.nilSlice]=_
      rw [Sl.valN_ren]; exact denL_cons.2 ⟨_,_,hks,hys,rfl⟩
    . show (((k.pl m).valN 4 n).uses _ && (true && true))=true
      rw [Sl.valN_uses _ _ _ _ rfl]; rfl
   have hc:∀ {n:Nat},k.o+n<=k.N->∀ q∈[IsB (qea k.X),k.o+n<=k.N,64<=64/\64<=1099511627776,IsB (qea k.X),k.o+n<=k.N,96<=96/\96<=1099511627776],q:=fun h=>all_cons (qda _) (all_cons h (all_cons ⟨by omega,by omega⟩ (all_cons (qda _) (all_cons h (all_cons ⟨by omega,by omega⟩ qaa)))))
   cases h:Nat.beq n 16 with
   | true =>
     have h:=qpa h
     subst h
     exact key (by omega) hks (jxi shaF k m) (hc hle)
   | false =>
     rw [h] at h12
     have h:=qpa h12
     subst h
     exact key (by omega) hks (jzi shaF k m) (hc hle)
 . rw [hv] at ha
   obtain ⟨xk,ys,hxk,hys,rfl⟩:=denL_cons.1 ha
   obtain ⟨xb,zs,hxb,hzs,rfl⟩:=denL_cons.1 hys
   obtain ⟨m,hks⟩:=Sl.valN_den (hi1 _ _ hxk)
   obtain ⟨m2,_,hbs⟩:=Sl.val_den (hi2 _ _ hxb)
   have n3:∀ {x:Nat},x∈[kn,bn]->qeb x=true:=by simp only [List.mem_cons,List.not_mem_nil,or_false]; rintro x (rfl | rfl) <;> assumption
   have key:∀ {n:Nat} {bv':SV} {I:Nat->BitVec 8} {l j cs},n<=64->((k.pl m).valN kn n).den β=some xk->(bv'.ren (shaI [kn,bn] [k.row,b.row] []).big).den β=some xb->bv'.uses (shaI [kn,bn] [k.row,b.row] []).known=true->(shaI [kn,bn] [k.row,b.row] []).known j=false->6<=j ->
     outO [j] (rhT shaF (k.pl m) n bv' [(b.pl m2).row]) []=(cs,rhR j (rhO shaF k n I l))->rhO shaF k n I l=tagS shaF (k.len n) b->(∀ q∈cs,q)->q4a Tryz.prog H β w base 36 (xk::xb::zs) ⟨mkV base,[],[mkE (tagS shaF (k.len n) b)]⟩:=by
    intro n bv' I l j cs hn64 hks hb' hu hj h6 hr hE hc
    rw [hE] at hr
    refine qka qh6 8000 hH (shaI [kn,bn] [k.row,b.row] [(k.pl m).valN 4 n,bv']) (qae hG) ?_ (Ifc.fits (nd4 hd fun _=>n3) ?_ (q5e hT ⟨⟨ht1 _,k.row_uses _⟩,⟨ht2 _,b.row_uses _⟩,trivial⟩)) [j] (by simp [shaI]; omega) (by simp) hr hc fun H2 hH2=>q09 hj rfl (List.cons.inj hH2).1
    . show SV.denL β [((k.pl m).valN 4 n).ren _,bv'.ren _]=_
      rw [Sl.valN_ren]; exact denL_cons.2 ⟨_,_,hks,denL_cons.2 ⟨_,_,hb',hzs,rfl⟩,rfl⟩
    . show (((k.pl m).valN 4 n).uses _ && (bv'.uses _ && true))=true
      rw [Sl.valN_uses _ _ _ _ rfl,show bv'.uses (shaI [kn,bn] [k.row,b.row] [(k.pl m).valN 4 n,bv']).known=true from hu]; rfl
   by_cases h0:b.n=0
   . have hb0:(((b.pl m2).valN 5 0).ren (shaI [kn,bn] [k.row,b.row] []).big).den β=some xb:=by
      rw [Sl.valN_ren]
      exact qke (l:=.sym b.n) (l':=.lit 0) h0 _ _ hbs
     have hc:∀ {n:Nat},k.o+n<=k.N->∀ q∈[IsB (qea k.X),k.o+n<=k.N,b.o+0<=b.N,64<=64/\64<=1099511627776,IsB (qea k.X),k.o+n<=k.N,96<=96/\96<=1099511627776],q:=fun h=>all_cons (qda _) (all_cons h (all_cons (by have:=hb.1; omega) (all_cons ⟨by omega,by omega⟩ (all_cons (qda _) (all_cons h (all_cons ⟨by omega,by omega⟩ qaa))))))
     have hE:∀ {n:Nat},n<=64->rhO shaF k n (qba (rbL k n 0x36#8)) 64=tagS shaF (k.len n) b:=fun {n} hn=>by
      refine (qv3 (M:=b.F) (m:=0) hn fun i hi => ?_).trans ?_
      . rw [qix hn (by omega)]; unfold catF; rw [if_pos (by omega)]
      . unfold tagS; rw [h0]; rfl
     cases h:Nat.beq n 16 with
     | true =>
       have h:=qpa h
       subst h
       exact key (by omega) hks hb0 (Sl.valN_uses _ _ _ _ rfl) rfl (by omega) (jze shaF k b m m2) (hE (by omega)) (hc hle)
     | false =>
       rw [h] at h12
       have h:=qpa h12
       subst h
       exact key (by omega) hks hb0 (Sl.valN_uses _ _ _ _ rfl) rfl (by omega) (j0e shaF k b m m2) (hE (by omega)) (hc hle)
   . have hb0:(((b.pl m2).val 5).ren (shaI [kn,bn] [k.row,b.row] []).big).den β=some xb:=by
      rw [Sl.val_ren]; exact hbs
     have hb2:=hb.2
     have hc:∀ {n:Nat},k.o+n<=k.N->∀ q∈[IsB (qea k.X),k.o+n<=k.N,b.o+b.n<=b.N/\IsB (qea b.X),64<=64,64<64+b.n/\((64+b.n) * 1<70368744177664/\64+b.n<70368744177664)/\1=1,IsB (qea (rhI k n b)),0+(64+b.n)<=64+b.n/\64+b.n<=1099511627776,IsB (qea k.X),k.o+n<=k.N,96<=96/\96<=1099511627776],q:=fun h=>all_cons (qda _) (all_cons h (all_cons ⟨hb.1,qda _⟩ (all_cons (by omega) (all_cons ⟨by omega,⟨by omega,by omega⟩,rfl⟩ (all_cons (qda _) (all_cons ⟨by omega,by omega⟩ (all_cons (qda _) (all_cons h (all_cons ⟨by omega,by omega⟩ qaa)))))))))
     have hE:∀ {n:Nat},n<=64->rhO shaF k n (rhI k n b) (64+b.n)=tagS shaF (k.len n) b:=fun {n} hn=>qv3 hn (j0u hn)
     cases h:Nat.beq n 16 with
     | true =>
       have h:=qpa h
       subst h
       exact key (by omega) hks hb0 (Sl.val_uses _ _ _ rfl) rfl (by omega) (jwi shaF k b m m2) (hE (by omega)) (hc hle)
     | false =>
       rw [h] at h12
       have h:=qpa h12
       subst h
       exact key (by omega) hks hb0 (Sl.val_uses _ _ _ rfl) rfl (by omega) (jyi shaF k b m m2) (hE (by omega)) (hc hle)
end
end Go.Proofs.YtcpafideogckmaaGreatDoor.Aes
