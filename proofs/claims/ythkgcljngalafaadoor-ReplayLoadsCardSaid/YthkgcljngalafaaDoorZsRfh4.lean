/-
  The reference's hash, fourth part: what a block comes to.
-/
import Derived.Test.YthkgcljngalafaaDoorPs10
namespace Go.Proofs.YthkgcljngalafaaDoor.Aes
noncomputable section
open Go.Sim
open Go.Proofs
variable {α:Type}
theorem q5y {l:List SV} {g:Nat->SV} {n:Nat} (hl:l.length=n) (h:∀ (i:Nat) (v:SV),l[i]? = some v->v.Imp (g i)):(Cells.lst l).Imp (.fn g n):=by
 intro γ vs hv
 have hlen:=qva hv
 refine ⟨by omega,fun i x hx => ?_⟩
 have hi:i<l.length:=by
  have:=(List.getElem?_eq_some_iff.1 hx).1
  omega
 obtain ⟨y,hy,hd⟩:=qed hv (List.getElem?_eq_getElem hi)
 rw [hx] at hy; cases hy
 exact h i _ (List.getElem?_eq_getElem hi) γ x hd
theorem jei {f g:Nat->SV} {n:Nat} (h:∀ i,(f i).Imp (g i)):(Cells.fn f n).Imp (.fn g n):=fun γ _ hv=>⟨hv.1,fun i x hx=>h i γ x (hv.2 i x hx)⟩
def W0 (X:Nat->BitVec 8) (o:Nat):Nat->W32:=fun j=>if j<16 then qap X (o+4 * j) else wd 0
theorem qs4 (X:Nat->BitVec 8) (o:Nat):(wL0 X o).length=64:=by
 unfold wL0
 rw [q1a,qja,q9c,List.length_append,List.length_map,qya,List.length_range',List.length_replicate]
theorem j4f (X:Nat->BitVec 8) (o:Nat):(Cells.lst (wL0 X o)).Imp (.fn (fun j=>iw (W0 X o j)) 64):=by
 refine q5y (qs4 X o) fun i v hv => ?_
 unfold wL0 at hv
 rw [q1a,qja,q9c] at hv
 by_cases hi:i<16
 . rw [List.getElem?_append_left (by rw [List.length_map,qya,List.length_range']; exact hi),List.getElem?_map,qya,List.getElem?_range' hi] at hv
   simp only [Option.map_some,Option.some.injEq] at hv
   subst hv
   refine qld ?_
   show eI X (o+4 * (0+1 * i)) 3=((W0 X o i).toNat:Int)
   unfold W0
   rw [if_pos hi,qb0]
   congr 1; omega
 . have hlt:i<64:=by
    have:=(List.getElem?_eq_some_iff.1 hv).1
    rw [List.length_append,List.length_map,qya,List.length_range',List.length_replicate] at this
    exact this
   rw [List.getElem?_append_right (by rw [List.length_map,qya,List.length_range']; omega),List.getElem?_replicate,List.length_map,qya,List.length_range',if_pos (by omega)] at hv
   cases hv
   refine qld ?_
   show (0:Int)=((W0 X o i).toNat:Int)
   unfold W0
   rw [if_neg hi]; rfl
theorem jab {X:Nat->BitVec 8} {N o:Nat} (h:o+64<=N):∀ p∈cBlk X N o,p:=by
 have key:∀ (k j:Nat),j+k=16->∀ p∈(List.rec (motive:=fun _=>List Prop) [] (fun t _ ih=>(o+(4 * t+0)<N)::qpa (eI X (o+4 * t) 0)::(o+(4 * t+1)<N)::qpa (eI X (o+4 * t) 1)::(o+(4 * t+2)<N)::qpa (eI X (o+4 * t) 2)::(o+(4 * t+3)<N)::qpa (eI X (o+4 * t) 3)::ih) (qra k j):List Prop),p:=by
  intro k
  induction k with
  | zero=>intro j _ p hp; cases hp
  | succ k ih =>
    intro j hj p hp
    obtain ⟨e0,e1,e2,e3⟩:=jad X (o+4 * j)
    have b0:=(X (o+4 * j)).isLt
    have b1:=(X (o+4 * j+1)).isLt
    have b2:=(X (o+4 * j+2)).isLt
    have b3:=(X (o+4 * j+3)).isLt
    have hp:p∈(o+(4 * j+0)<N)::qpa (eI X (o+4 * j) 0)::(o+(4 * j+1)<N)::qpa (eI X (o+4 * j) 1)::(o+(4 * j+2)<N)::qpa (eI X (o+4 * j) 2)::(o+(4 * j+3)<N)::qpa (eI X (o+4 * j) 3)::(List.rec (motive:=fun _=>List Prop) [] (fun t _ ih=>(o+(4 * t+0)<N)::qpa (eI X (o+4 * t) 0)::(o+(4 * t+1)<N)::qpa (eI X (o+4 * t) 1)::(o+(4 * t+2)<N)::qpa (eI X (o+4 * t) 2)::(o+(4 * t+3)<N)::qpa (eI X (o+4 * t) 3)::ih) (qra k (j+1)):List Prop):=hp
    rw [e0,e1,e2,e3] at hp
    simp only [List.mem_cons] at hp
    rcases hp with rfl | rfl | rfl | rfl | rfl | rfl | rfl | rfl | hp
    . omega
    . exact ⟨by omega,by omega⟩
    . omega
    . exact ⟨by omega,by omega⟩
    . omega
    . exact ⟨by omega,by omega⟩
    . omega
    . exact ⟨by omega,by omega⟩
    . exact ih (j+1) (by omega) p hp
 exact key 16 0 rfl
section
variable {X:Nat->BitVec 8} {N o m:Nat} {L:List W32}
structure OkA (X:Nat->BitVec 8) (o:Nat) (A:BlkA) (t:Nat):Prop where
 at_:A.t=t
 lo:16<=t
 hi:t<=64
 W:∀ j,j<t->A.W j=atW (qac (qfb X o)) j
structure OkB (X:Nat->BitVec 8) (o:Nat) (L:List W32) (B:BlkB) (t:Nat):Prop where
 at_:B.t=t
 hi:t<=64
 W:∀ j,j<64->B.W j=atW (qac (qfb X o)) j
 V:B.V=stN L (qac (qfb X o)) t
def OkS (X:Nat->BitVec 8) (o:Nat) (L:List W32):BlkS->Prop
 | .a A=>∃ t,OkA X o A t
 | .b B=>∃ t,OkB X o L B t
def muS:BlkS->Nat
 | .a A=>200 - A.t.toNat
 | .b B=>100 - B.t.toNat
theorem qdp {A:BlkA} {k:Int} {r:List Prop} (h1:0<=A.t - k) (h2:A.t - k<64) (hr:∀ p∈r,p):∀ p∈rrdC A k r,p :=
 all_cons ⟨by omega,by omega⟩ (all_cons ⟨h1,h2⟩ (all_cons (by omega) hr))
theorem jfi {A:BlkA} {t:Nat} (h:A.t=t) (h1:16<=t) (h2:t<64):∀ p∈c2 A,p:=by
 have hn:=j9a A
 have a1:=(sg1 (atI A.W (A.t - 2))).isLt
 have a2:=(atI A.W (A.t - 7)).isLt
 have a3:=(rsg0 (atI A.W (A.t - 15))).isLt
 exact all_cons (decide_eq_true (by omega)) (qdp (by omega) (by omega) (qdp (by omega) (by omega) (qdp (by omega) (by omega) (all_cons ⟨by omega,by omega⟩ (all_cons ⟨by omega,by omega⟩ (qdp (by omega) (by omega) (all_cons ⟨by omega,by omega⟩ (all_cons hn.1 (all_cons ⟨by omega,by omega⟩ (all_cons (by omega) (all_cons ⟨by omega,by omega⟩ qba)))))))))))
theorem qn1 {t:Int} {r:List Prop} (h1:0<=t) (h2:t<64) (hr:∀ p∈r,p):∀ p∈ixC t r,p:=all_cons ⟨h1,h2⟩ (all_cons (by omega) hr)
theorem jgi {B:BlkB} {t:Nat} (h:B.t=t) (h2:t<64):∀ p∈c3 B,p:=by
 have:=tI_le B
 exact all_cons (decide_eq_true (by omega)) (all_cons ⟨by omega,by omega⟩ (all_cons ⟨by omega,by omega⟩ (qn1 (by omega) (by omega) (all_cons ⟨by omega,by omega⟩ (qn1 (by omega) (by omega) (all_cons ⟨by omega,by omega⟩ (all_cons ⟨by omega,by omega⟩ (all_cons ⟨by omega,by omega⟩ (all_cons (by omega) (all_cons ⟨by omega,by omega⟩ (all_cons (by omega) (all_cons ⟨by omega,by omega⟩ qba))))))))))))
theorem jhi {V:List W32}:∀ l:List Nat,∀ p∈(List.rec (motive:=fun _=>List Prop) [] (fun i _ ih=>qpa (sumI L V i)::(0<=sumI L V i)::ih) l:List Prop),p:=by
 intro l
 induction l with
 | nil=>intro p hp; cases hp
 | cons i l ih =>
   have a1:=(atW L i).isLt
   have a2:=(atW V i).isLt
   exact all_cons ⟨by unfold sumI; omega,by unfold sumI; omega⟩ (all_cons (by unfold sumI; omega) ih)
theorem jii {B:BlkB} {t:Nat} (h:B.t=t) (h2:64<=t):∀ p∈c4 L B,p:=by
 refine all_cons (decide_eq_false (by omega)) ?_
 exact jhi (qra 8 0)
theorem q5t {C:Cut} {i j:Nat} {v:SV} (h:((C.frames[i]?).bind fun p=>p.tmps[j]?)=some (some v)) {p:SP} {u:Option SV} (hp:C.frames[i]? = some p) (hu:p.tmps[j]? = some u) {w:SV} {f:Nat->Nat} (hi:w.Imp (v.ren f)):∃ x,u=some x/\w.Imp (x.ren f):=by
 rw [hp] at h
 simp only [Option.bind_some,hu,Option.some.injEq] at h
 exact ⟨v,h,hi⟩
theorem jji {c:Prop} [Decidable c] {a b:W32}:(if c then iw a else iw b).Imp (iw (if c then a else b)):=by
 split <;> exact .refl _
theorem jbb (hL:L.length=8) (hN:o+64<=N):Runs cfgR1 51 (qfl o m L) (qcp X N) fun v _=>v=.agg (ux (cmpW L (qfb X o))):=by
 have hw64:=q4t (qsh X o)
 refine quc jzf (blkX X N o m L) (OkS X o L) muS (fun g nm hg=>Nat.lt_of_lt_of_le (qwj hg) (by show 3<=5; omega)) ?_ fun S hS J => ?_
 . refine qwc none 1888 (.a ⟨16,W0 X o⟩) ⟨16,rfl,Nat.le_refl _,by omega,fun j hj => ?_⟩ (j4a X N o m L (W0 X o)) (q0s X N o m L _ _) ?_ ?_ (jab hN)
   . show W0 X o j=_
     rw [qp4 (by rw [qsh]; exact hj),qq4 X o hj]
     unfold W0
     rw [if_pos hj]
   . intro e he p u hp hu
     rw [List.mem_singleton] at he; subst he
     exact q5t (j6a X N o m L _) hp hu (qld rfl)
   . intro e he E0 hE
     rw [List.mem_singleton] at he; subst he
     cases hE
     exact ⟨_,rfl,j4f X o⟩
 . cases S with
   | a A =>
     obtain ⟨t,hA⟩:=hS
     have hlo:=hA.lo
     have hat:=hA.at_
     by_cases ht:t<64
     . refine qfg (some (1,3)) 4000 (.a ⟨A.t+1,newW A⟩) ⟨⟨t+1,by show A.t+1=_; omega,by omega,by omega,fun j hj => ?_⟩,?_⟩ (q97 X N o m L A J) (q0s X N o m L _ _) (by simp) ?_ (jfi hA.at_ hA.lo ht)
       . have hi:∀ k:Nat,k<=16->1<=k->atI A.W (A.t - (k:Int))=atW (qac (qfb X o)) (t - k):=by
          intro k hk hk1
          unfold atI
          rw [show 0+(A.t - (k:Int)).toNat * 1=t - k from by omega]
          exact hA.W _ (by omega)
         show newW A j=_
         unfold newW
         by_cases hjt:j=t
         . rw [if_pos (by omega),j8a,hjt,qc8 (qsh X o) hlo ht]
           rw [show atI A.W (A.t - 2)=_ from hi 2 (by omega) (by omega),show atI A.W (A.t - 7)=_ from hi 7 (by omega) (by omega),show atI A.W (A.t - 15)=_ from hi 15 (by omega) (by omega),show atI A.W (A.t - 16)=_ from hi 16 (by omega) (by omega)]
         . rw [if_neg (by omega)]
           exact hA.W j (by omega)
       . show 200 - (A.t+1).toNat<200 - A.t.toNat
         omega
       . intro e he E0 hE
         rw [List.mem_singleton] at he; subst he
         cases hE
         exact ⟨_,rfl,jei fun j=>jji⟩
     . have h64:t=64:=by have:=hA.hi; omega
       refine qfg (some (1,3)) 4000 (.b ⟨0,A.W,L⟩) ⟨⟨0,rfl,by omega,fun j hj=>hA.W j (by omega),rfl⟩,?_⟩ (qa8 X N o m L A 0 J) (q1s X N o m L _ _) ?_ (by simp) (all_cons (decide_eq_false (by omega)) qba)
       . show 100 - 0<200 - A.t.toNat
         omega
       . intro e he p u hp hu
         rw [List.mem_singleton] at he; subst he
         exact q5t (j7a X N o m L _) hp hu (qld rfl)
   | b B =>
     obtain ⟨t,hB⟩:=hS
     have hat:=hB.at_
     by_cases ht:t<64
     . refine qtc (some (1,3)) 4000 (.b ⟨B.t+1,B.W,newV B⟩) ⟨⟨t+1,by show B.t+1=_; omega,by omega,hB.W,?_⟩,?_⟩ (qb8 X N o m L B J) (q1s X N o m L _ _) (jgi hB.at_ ht)
       . show newV B=rndW (stN L _ t) _ _
         rw [j1f hB.at_ ht hB.W,hB.V]
       . show 100 - (B.t+1).toNat<100 - B.t.toNat
         omega
     . refine q7b none 4000 (j5a X N o m L B J) (jii hB.at_ (by omega)) fun H _ => ?_
       have h64:t=64:=by have:=hB.hi; omega
       show SV.agg (ux (endV L B.V))=_
       rw [hB.V,h64,j3f hL hw64]; rfl
end
end
end Go.Proofs.YthkgcljngalafaaDoor.Aes
