/-
  The profiles: the key stream.
-/
import Derived.Test.YtcpafideogckmaaGreatDoorPc15
namespace Go.Proofs.YtcpafideogckmaaGreatDoor.Aes
noncomputable section
open Go.Sim
open Go.Proofs
variable {α:Type}
set_option maxRecDepth 1000000
def qqk (F:HashF):Cfg:=cfgG q3b (qbb [(64,hmS F),(17,qft),(32,numS)])
theorem qqo:CfgOK (qqk shaF):=qwb (allS hmOK (allS (qbs _) (allS (qas _) (by simp))))
def stT (F:HashF) (k c t:Sl) (n:Nat):Tree:=qca (qqk F) 40000 62 [k.val 4,c.val 5,t.valN 6 n] (qpc [k.row,c.row,t.row])
def strB (F:HashF) (k c:Sl) (i:Nat):BitVec 8:=qba (macB F k.F k.n (two c (slL (num4 ((i / 32:Nat)+1)))) (c.n+4)) (i % 32)
def strF (F:HashF) (k c t:Sl):Nat->BitVec 8:=fun i=>t.X (t.o+i) ^^^ strB F k c i
def stC (k c t:Sl) (n:Nat):List Prop:=IsB (qea t.X)::okL (t.len n)::Nat.rec (motive:=fun _=>Nat->List Prop) (fun _=>[]) (fun _ ih j=>IsB (qea k.X)::IsB (qea c.X)::(okK k/\okL c/\okL (slL (num4 ((j:Nat)+1))))::ih (Nat.succ j)) ((n+31) / 32) 0
def stE (F:HashF) (k c t:Sl) (n:Nat):SO:=.own (.lst (bx (tabB (strF F k c t) n))) false 5
def stO (F:HashF) (k c t:Sl) (n:Nat):List Prop × Option (SV × List (Option SO)):=(stC k c t n,some (deV 8 n,[some (stE F k c t n)]))
theorem st_5 (F:HashF) (k c t:Sl) (m m2 m3:Nat):outO [8] (stT F (k.pl m) (c.pl m2) (t.pl m3) 5) []=stO F k c t 5:=by kernel_rfl
theorem jcq {k c t:Sl} {n:Nat} (h1:okK k) (h2:okL c) (h3:okL (t.len n)):∀ p∈stC k c t n,p:=by
 have key:∀ q j,∀ p∈(Nat.rec (motive:=fun _=>Nat->List Prop) (fun _=>[]) (fun _ ih j=>IsB (qea k.X)::IsB (qea c.X)::(okK k/\okL c/\okL (slL (num4 ((j:Nat)+1))))::ih (Nat.succ j)) q j:List Prop),p:=by
  intro q
  induction q with
  | zero=>intro j p hp; cases hp
  | succ q ih=>intro j; exact all_cons (qda _) (all_cons (qda _) (all_cons ⟨h1,h2,q9k (n:=4) rfl (by omega)⟩ (ih (j+1))))
 exact all_cons (qda _) (all_cons h3 (key _ 0))
def stS (F:HashF):Summ:=fun args H base=>qoc args fun kv cv tv=>qbf H (qcc H kv fun k kn=>qcc H cv fun c cn=>qoi H tv fun t tn n=>boolC (qrc [kn,cn,tn]) (.need (okK k/\okL c/\okL (t.len n)) (boolC (Nat.beq n 5) (.ok ⟨deV base 5,[],[stE F k c t 5]⟩) (.stuck 793))) (.stuck 793))
theorem Sl.valN_den {t:Sl} {nm n:Nat} {γ:Val} {x:Value} (h:(t.valN nm n).den γ=some x):∃ m,((t.pl m).valN nm n).den γ=some x:=by
 obtain ⟨m,_,_,hd,_⟩:=q8a (show (SV.slice ⟨nm,.sym t.o⟩ (.lit n) (boolC t.b (.rest nm t.k) (.sym t.k))).den γ=some x from h)
 exact ⟨m,hd⟩
theorem stOK:SumAt Tryz.prog q3b 62 (stS shaF):=by
 intro O w0 β H w base args vs hH hG ha
 refine qcb fun kv cv tv hv=>qkc fun hT=>qab fun k kn hn ht hk=>qab fun c cn hn2 ht2 hk2=>q6e fun t tn n hn3 ht3 hk3 htn=>qfa fun hd=>fun ⟨h1,h2,h3⟩=>qfa fun h5 => ?_
 have h5:=qpa h5
 subst h5
 rw [hv] at ha
 obtain ⟨x,ys,hx,hys,rfl⟩:=denL_cons.1 ha
 obtain ⟨y,zs,hy,hzs,rfl⟩:=denL_cons.1 hys
 obtain ⟨q,qs,hq,hqs,rfl⟩:=denL_cons.1 hzs
 obtain ⟨m,_,hx'⟩:=Sl.val_den (hk _ _ hx)
 obtain ⟨m2,_,hy'⟩:=Sl.val_den (hk2 _ _ hy)
 obtain ⟨m3,hq'⟩:=Sl.valN_den (hk3 _ _ hq)
 refine qka qqo 40000 hH (qqa [kn,cn,tn] [k.row,c.row,t.row] [(k.pl m).val 4,(c.pl m2).val 5,(t.pl m3).valN 6 5]) (qma hG) ?_ (Ifc.fits (nd4 hd (by simp only [List.mem_cons,List.not_mem_nil,or_false]; rintro x (rfl | rfl | rfl) <;> assumption)) ?_ (qdb hT ⟨⟨ht _,k.row_uses _⟩,⟨ht2 _,c.row_uses _⟩,⟨ht3 _,t.row_uses _⟩,trivial⟩)) [8] (by simp [qqa]) (by simp) (st_5 shaF k c t m m2 m3) (jcq h1 h2 h3) fun H2 hH2=>qx9 rfl rfl (List.cons.inj hH2).1 rfl
 . show SV.denL β [((k.pl m).val 4).ren _,((c.pl m2).val 5).ren _,((t.pl m3).valN 6 5).ren _]=_
   rw [Sl.val_ren,Sl.val_ren,Sl.valN_ren]
   exact denL_cons.2 ⟨_,_,hx',denL_cons.2 ⟨_,_,hy',denL_cons.2 ⟨_,_,hq',hqs,rfl⟩,rfl⟩,rfl⟩
 . show (((k.pl m).val 4).uses _ && (((c.pl m2).val 5).uses _ && (((t.pl m3).valN 6 5).uses _ && true)))=true
   rw [Sl.val_uses _ _ _ rfl,Sl.val_uses _ _ _ rfl,Sl.valN_uses _ _ _ _ rfl]; rfl
end
end Go.Proofs.YtcpafideogckmaaGreatDoor.Aes
