/-
  The profiles: the keyed hash of which a tag is the beginning.
-/
import Derived.Test.YtbmgahpjgefjaaaGreatDoorOzPro9
namespace Go.Proofs.YtbmgahpjgefjaaaGreatDoor.Aes
open Go.Sim
open Go.Proofs
variable {α:Type}
set_option maxRecDepth 1000000
noncomputable def jxl (F:HashF):Cfg:=cfgG q6b (qbb [(73,hmS F)])
theorem jmp:CfgOK (jxl shaF):=q2b (allS hmOK (by simp))
noncomputable def mkT (f:FuncId) (F:HashF) (k c:Sl):Tree:=qca (jxl F) 4000 f [k.val 4,c.val 5] (q5c [k.row,c.row])
noncomputable def z16:Sl:=slL (repN 0#8 16)
noncomputable def okK (k:Sl):Prop:=k.o+k.n≤k.N∧k.n≤4096
noncomputable def mkV (nm:Nat):SV:=.slice ⟨nm,.lit 0⟩ (.lit 32) (.lit 32)
noncomputable def mkE (L:List (BitVec 8)):SO:=.own (.lst (b32L L)) true 98
noncomputable def tagB (F:HashF) (k c:Sl):List (BitVec 8):=macB F k.F k.n (two z16 c) (16+c.n)
noncomputable def tagS (F:HashF) (k c:Sl):List (BitVec 8):=macB F k.F k.n c.F c.n
theorem jnp (F:HashF) (k c:Sl) (m m2:Nat):outO [8] (mkT 69 F (k.pl m) (c.pl m2)) []=([IsB (qda k.X),IsB (qda c.X),(okK k∧okL z16∧okL c)],some (mkV 8,[some (mkE (tagB F k c))])):=by kernel_rfl
theorem jop (F:HashF) (k c:Sl) (m m2:Nat):outO [7] (mkT 72 F (k.pl m) (c.pl m2)) []=([IsB (qda k.X),IsB (qda c.X),(okK k∧okL c)],some (mkV 7,[some (mkE (tagS F k c))])):=by kernel_rfl
noncomputable def mkS (G:Sl→Sl→List (BitVec 8)):Summ:=fun args H base=>qcd args fun kv cv=>qdf H (qjc H kv fun k kn=>qjc H cv fun c cn=>boolC (qvc [kn,cn]) (.need (okK k∧okL c) (.ok ⟨mkV base,[],[mkE (G k c)]⟩)) (.stuck 792))
theorem qt9 {I:Ifc} {base j:Nat} {L:List (BitVec 8)} {H:List SO} (hj:I.known j=false) (ho:q7b I.ents 0=[]) (hE:H[j]? = some (mkE L)):I.Ends base [j] ⟨mkV base,[],[mkE L]⟩ (mkV j) H:=by
  have ho':I.out base [j] j=base:=by
    unfold Ifc.out
    rw [hj]
    show base+idxN j [j]=base
    rw [show idxN j [j]=boolC (Nat.beq j j) 0 _ from rfl,Nat.beq_refl]; rfl
  have hs:I.seen [j] j=true:=by
    unfold Ifc.seen
    rw [hj]
    exact (memN_iff (n:=j) (l:=[j])).2 List.mem_cons_self
  refine ⟨?_,?_,by rw [ho]; trivial,⟨qbc hE (qed _ _) (by show SO.own (.lst (SV.renL _ (bx _))) _ _=_; rw [q7d]; rfl),trivial⟩⟩
  · show (SV.slice ⟨I.out base [j] j,.lit 0⟩ (.lit 32) (.lit 32)).Imp _
    rw [ho']; exact .refl _
  · show (I.seen [j] j && true)=true
    rw [hs]; rfl
theorem mkOK {f:FuncId} {j:Nat} {G:Sl→Sl→List (BitVec 8)} {cs:Sl→Sl→List Prop} (hj:6≤j) (hrun:∀ k c m m2,outO [j] (mkT f shaF (k.pl m) (c.pl m2)) []=(cs k c,some (mkV j,[some (mkE (G k c))]))) (hc:∀ k c,okK k→okL c→∀ p∈cs k c,p):SumAt Tryz.prog q6b f (mkS G):=by
  intro O w0 β H w base args vs hH hG ha
  refine qnb fun kv cv hv=>qlc fun hT=>qcb fun k kn hn ht hk=>qcb fun c cn hn2 ht2 hk2=>qfa fun hd=>fun ⟨h1,h2⟩ => ?_
  rw [hv] at ha
  obtain ⟨x,ys,hx,hys,rfl⟩:=denL_cons.1 ha
  obtain ⟨y,zs,hy,hzs,rfl⟩:=denL_cons.1 hys
  obtain ⟨m,_,hx'⟩:=Sl.val_den (hk _ _ hx)
  obtain ⟨m2,_,hy'⟩:=Sl.val_den (hk2 _ _ hy)
  have hkn:(qta [kn,cn] [k.row,c.row] [(k.pl m).val 4,(c.pl m2).val 5]).known j=false:=by
    cases hb:(qta [kn,cn] [k.row,c.row] [(k.pl m).val 4,(c.pl m2).val 5]).known j with
    | false=>rfl
    | true =>
      have:=(Ifc.known_iff _ j).1 hb
      simp [qta] at this
      omega
  refine qka jmp 4000 hH (qta [kn,cn] [k.row,c.row] [(k.pl m).val 4,(c.pl m2).val 5]) (qqa hG) ?_ (Ifc.fits (nd4 hd (by simp only [List.mem_cons,List.not_mem_nil,or_false]; rintro x (rfl | rfl) <;> assumption)) ?_ (qgb hT ⟨⟨ht _,k.row_uses _⟩,⟨ht2 _,c.row_uses _⟩,trivial⟩)) [j] (by simp [qta]; omega) (by simp) (hrun k c m m2) (hc k c h1 h2) fun H2 hH2=>qt9 hkn rfl (List.cons.inj hH2).1
  · show SV.denL β [((k.pl m).val 4).ren _,((c.pl m2).val 5).ren _]=_
    rw [Sl.val_ren,Sl.val_ren]
    exact denL_cons.2 ⟨_,_,hx',denL_cons.2 ⟨_,_,hy',hzs,rfl⟩,rfl⟩
  · show (((k.pl m).val 4).uses _ && (((c.pl m2).val 5).uses _ && true))=true
    rw [Sl.val_uses _ _ _ rfl,Sl.val_uses _ _ _ rfl]; rfl
theorem jyl:SumAt Tryz.prog q6b 69 (mkS (tagB shaF)):=mkOK (by omega) (jnp shaF) fun k c h1 h2=>all_cons (qea _) (all_cons (qea _) (all_cons ⟨h1,q4k (n:=16) rfl (by omega),h2⟩ qba))
theorem jzl:SumAt Tryz.prog q6b 72 (mkS (tagS shaF)):=mkOK (by omega) (jop shaF) fun k c h1 h2=>all_cons (qea _) (all_cons (qea _) (all_cons ⟨h1,h2⟩ qba))
end Go.Proofs.YtbmgahpjgefjaaaGreatDoor.Aes
