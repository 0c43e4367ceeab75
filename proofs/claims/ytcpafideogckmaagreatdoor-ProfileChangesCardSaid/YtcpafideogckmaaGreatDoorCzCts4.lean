/-
  Chained blocks, fourth part: what Encrypt and Decrypt come to, for every number of bytes from 16 to 224.
-/
import Derived.Test.YtcpafideogckmaaGreatDoorCzCts3
namespace Go.Proofs.YtcpafideogckmaaGreatDoor.Aes
noncomputable section
open Go.Sim
open Go.Proofs
variable {α:Type}
def qxp (P:Nat->BitVec 8) (l:Nat):Nat->BitVec 8:=fun j=>if j<l then P j else 0#8
def numB (l:Nat):Nat:=(l+15) / 16
def qzs (P:Nat->BitVec 8) (l:Nat):List Blk:=q6c (qxp P l) 0 (numB l)
def qay (ks:Nat->BitVec 8) (P:Nat->BitVec 8) (l k:Nat):Nat->BitVec 8:=fun j=>if j<l - (k+16) then P (k+16+j) else qba (decL ks (qha P k)) j
def q4m (ks:Nat->BitVec 8) (P:Nat->BitVec 8) (l:Nat):List Blk:=if l<=16 then q6c P 0 1 else app (q6c P 0 (numB l - 2)) [qha (qay ks P l (16 * (numB l - 2))) 0,qha P (16 * (numB l - 2))]
def encF (K V:Blk) (P:Nat->BitVec 8) (l:Nat):Blk:=q3m (swL (chainL (qba (q9e K)) (qzs P l) V))
def decF (K V:Blk) (P:Nat->BitVec 8) (l:Nat):Blk:=q3m (q9j (qba (q9e K)) (q4m (qba (q9e K)) P l) V)
theorem q0i {X Y:Nat->BitVec 8} {o o2:Nat} (h:∀ j,j<16->X (o+j)=Y (o2+j)):qha X o=qha Y o2:=by
 unfold qha
 rw [qwa,qwa,qcg]
 apply List.map_congr_left
 intro i hi
 rw [List.mem_range'] at hi
 obtain ⟨j,hj,rfl⟩:=hi
 exact h _ (by omega)
theorem qbk {X Y:Nat->BitVec 8} {o o2 n:Nat} (h:∀ j,j<16 * n->X (o+j)=Y (o2+j)):q6c X o n=q6c Y o2 n:=by
 unfold q6c
 rw [qwa,qwa,qcg]
 apply List.map_congr_left
 intro i hi
 rw [List.mem_range'] at hi
 obtain ⟨j,hj,rfl⟩:=hi
 refine q0i fun k hk => ?_
 rw [Nat.add_assoc,Nat.add_assoc]
 exact h _ (by omega)
theorem qyp (X:Nat->BitVec 8) (o n:Nat):q6c X o (n+1)=app (q6c X o n) [qha X (o+16 * n)]:=by
 unfold q6c
 rw [qwa,qwa,qcg,qcg,qib,List.range'_concat,List.map_append,Nat.one_mul,Nat.zero_add]
 rfl
theorem q5h (X:Nat->BitVec 8) (o n:Nat):(q6c X o n).length=n:=by
 unfold q6c; rw [qwa,qcg]; simp
theorem qz4 (n i:Nat):((qzc n).data.getD i 0).toBitVec=0#8:=by
 unfold qzc
 rw [Array.getD_eq_getD_getElem?,Array.getElem?_replicate]
 split <;> rfl
theorem qby {l k:Nat} (h:k<l) (h2:l<k+16):padN l k=16 - (l - k):=by unfold padN; omega
theorem qt8 (Z:Nat->BitVec 8) (o m:Nat):qzs (fun j=>Z (o+j)) (16 * m)=q6c Z o m:=by
 unfold qzs
 rw [show numB (16 * m)=m from by unfold numB; omega]
 refine qbk fun j hj => ?_
 unfold qxp
 rw [Nat.zero_add,if_pos hj]
theorem qu8 (Z:Nat->BitVec 8) (o m l:Nat) (h:16 * m<l) (h2:l<16 * m+16):qzs (fun j=>Z (o+j)) l=app (q6c Z o m) [qha (qtp Z l o (16 * m)) 0]:=by
 unfold qzs
 rw [show numB l=m+1 from by unfold numB; omega,qyp]
 congr 1
 . refine qbk fun j hj => ?_
   unfold qxp
   rw [Nat.zero_add,if_pos (by omega)]
 . congr 1
   refine q0i fun j hj => ?_
   unfold qxp qtp catB
   rw [Nat.zero_add,Nat.zero_add]
   by_cases hlt:16 * m+j<l
   . rw [if_pos hlt,if_pos (by omega)]
     show Z (o+(16 * m+j))=Z (o+16 * m+j)
     rw [Nat.add_assoc]
   . rw [if_neg hlt,if_neg (by omega)]
     exact (qz4 _ _).symm
theorem qy5 (a b:Blk):∀ l:List Blk,swL (app l [a,b])=app l [b,a]
 | []=>rfl
 | [x]=>rfl
 | x::y::r=>by
   have:=qy5 a b (y::r)
   have e:swL (app (x::y::r) [a,b])=x::swL (app (y::r) [a,b]):=by
    cases r with
    | nil=>rfl
    | cons=>rfl
   rw [e,this]; rfl
theorem jgd {β:Type} (a b c:List β):app (app a b) c=app a (app b c):=by simp only [qib,List.append_assoc]
theorem jhd (ks:Nat->BitVec 8) (Z:Nat->BitVec 8) (o:Nat):q4m ks (fun j=>Z (o+j)) 16=q6c Z o 1:=by
 unfold q4m
 rw [if_pos (Nat.le_refl _)]
 exact qbk fun j _=>by rw [Nat.zero_add]
theorem qv8 (ks:Nat->BitVec 8) (Z:Nat->BitVec 8) (o m:Nat):q4m ks (fun j=>Z (o+j)) (16 * m+32)=swL (q6c Z o (m+2)):=by
 unfold q4m
 rw [if_neg (by omega),show numB (16 * m+32) - 2=m from by unfold numB; omega]
 have e:q6c Z o (m+2)=app (q6c Z o m) [qha Z (o+16 * m),qha Z (o+16 * m+16)]:=by
  rw [qyp,qyp,jgd]; rfl
 rw [e,qy5]
 congr 1
 . exact qbk fun j _=>by rw [Nat.zero_add]
 . congr 1
   . refine q0i fun j hj => ?_
     unfold qay
     rw [Nat.zero_add,if_pos (by omega)]
     show Z (o+(16 * m+16+j))=Z (o+16 * m+16+j)
     rw [Nat.add_assoc,Nat.add_assoc,Nat.add_assoc]
theorem qw8 (ks:Nat->BitVec 8) (Z:Nat->BitVec 8) (o m l:Nat) (h:16 * m+16<l) (h2:l<16 * m+32):q4m ks (fun j=>Z (o+j)) l=app (q6c Z o m) [qha (qak ks Z l o (16 * m)) 0,qha Z (o+16 * m)]:=by
 unfold q4m
 rw [if_neg (by omega),show numB l - 2=m from by unfold numB; omega]
 congr 1
 . exact qbk fun j _=>by rw [Nat.zero_add]
 . congr 1
   . refine q0i fun j hj => ?_
     have hk:qpd l (16 * m+16)=l - (16 * m+16):=by unfold qpd; omega
     unfold qay qak catB
     rw [Nat.zero_add,hk]
     by_cases hlt:j<l - (16 * m+16)
     . rw [if_pos hlt,if_pos hlt]
       show Z (o+(16 * m+16+j))=if 0+j<l - (16 * m+16) then Z (o+(16 * m+16)+(0+j)) else _
       rw [Nat.zero_add,if_pos hlt,Nat.add_assoc o]
     . rw [if_neg hlt,if_neg hlt]
       have e:qha (fun j=>Z (o+j)) (16 * m)=qha Z (o+16 * m):=q0i fun j _=>by show Z (o+(16 * m+j))=Z (o+16 * m+j); rw [Nat.add_assoc]
       rw [e]
       show qba _ j=qba _ (0+(l - (16 * m+16)) * 1+(j - (l - (16 * m+16))))
       congr 1; omega
theorem q6h:∀ l:List Blk,(∀ b∈l,b.length=16)->(q3m l).length=16 * l.length
 | [],_=>rfl
 | b::l,h=>by
   show (app b (q3m l)).length=_
   rw [qib,List.length_append,q6h l (fun x hx=>h x (List.mem_cons_of_mem _ hx)),h b List.mem_cons_self,List.length_cons]; omega
theorem qz5:∀ (l:List Blk) (x:Blk),x∈swL l->x∈l
 | [],x,h=>h
 | [a],x,h=>h
 | [a,b],x,h=>by
   have h:x∈[b,a]:=h
   simp only [List.mem_cons,List.not_mem_nil,or_false] at h ⊢
   exact h.symm
 | a::b::c::r,x,h=>by
   have h:x∈a::swL (b::c::r):=h
   rcases List.mem_cons.1 h with rfl | h
   . exact List.mem_cons_self
   . exact List.mem_cons_of_mem _ (qz5 _ _ h)
theorem qzp:∀ l:List Blk,(swL l).length=l.length
 | []=>rfl
 | [_]=>rfl
 | [_,_]=>rfl
 | a::b::c::r=>by
   show (a::swL (b::c::r)).length=_
   rw [List.length_cons,qzp (b::c::r)]; rfl
theorem qrq (ks:Nat->BitVec 8):∀ (bs:List Blk) (v:Blk),(chainL ks bs v).length=bs.length
 | [],_=>rfl
 | b::r,v=>by
   show (encL ks (addL v b)::chainL ks r _).length=_
   rw [List.length_cons,qrq ks r,List.length_cons]
theorem qgz (ks:Nat->BitVec 8):∀ (bs:List Blk) (v:Blk),∀ b∈chainL ks bs v,b.length=16
 | [],_,b,h=>by cases h
 | c::r,v,b,h=>by
   have h:b∈encL ks (addL v c)::chainL ks r (encL ks (addL v c)):=h
   rcases List.mem_cons.1 h with rfl | h
   . rfl
   . exact qgz ks r _ b h
theorem qqh (ks:Nat->BitVec 8):∀ (bs:List Blk) (v:Blk),(q9j ks bs v).length=bs.length
 | [],_=>rfl
 | b::r,v=>by
   show (addL (decL ks b) v::q9j ks r b).length=_
   rw [List.length_cons,qqh ks r,List.length_cons]
theorem qmk (ks:Nat->BitVec 8):∀ (bs:List Blk) (v:Blk),∀ b∈q9j ks bs v,b.length=16
 | [],_,b,h=>by cases h
 | c::r,v,b,h=>by
   have h:b∈addL (decL ks c) v::q9j ks r c:=h
   rcases List.mem_cons.1 h with rfl | h
   . rfl
   . exact qmk ks r _ b h
theorem qye {X Y:Nat->BitVec 8} {o n o2 n2:Nat} {r:List Prop} (h1:o+16<=n) (h2:o2+16<=n2) (hr:∀ p∈r,p):∀ p∈q4h X Y o n o2 n2 r,p:=all_cons (qda X) (all_cons h1 (all_cons (qda Y) (all_cons h2 hr)))
theorem qnk {f:Nat->List Prop->List Prop} {r:List Prop} (hr:∀ p∈r,p):∀ (m i:Nat),(∀ j s,i<=j->j<i+m->(∀ p∈s,p)->∀ p∈f j s,p)->∀ p∈qgo f m i r,p:=by
 intro m
 induction m with
 | zero=>intro i _; exact hr
 | succ m ih =>
   intro i h
   exact h i _ (Nat.le_refl _) (by omega) (ih (i+1) fun j s h1 h2=>h j s (by omega) (by omega))
theorem qpw {Z:Nat->BitVec 8} {o3 n3 m3 i:Nat} {r:List Prop} (h1:16 * i+16<=m3) (h2:o3+16 * i+16<=n3) (hr:∀ p∈r,p):∀ p∈qw2 Z o3 n3 m3 i r,p :=
 all_cons h1 (all_cons (qda Z) (all_cons ⟨Nat.le_refl _,h2⟩ (all_cons (Nat.le_refl _) (all_cons (Nat.le_refl _) hr))))
theorem qx8 {Z:Nat->BitVec 8} {l o3 n3 m3 i:Nat} {r:List Prop} (h0:16 * i+16<=l) (h1:l<=m3) (h2:o3+l<=n3) (hr:∀ p∈r,p):∀ p∈jfd Z l o3 n3 m3 i r,p :=
 all_cons (decide_eq_true (by omega)) (all_cons (decide_eq_false (by omega)) (qpw (by omega) (by omega) hr))
theorem qx2 {Z:Nat->BitVec 8} {l o3 n3 m3 k:Nat} {r:List Prop} (h:k<l) (h':l<k+16) (h1:l<=m3) (h2:o3+l<=n3) (hr:∀ p∈r,p):∀ p∈cutC Z l o3 n3 m3 k r,p:=by
 have hp:=qby h h'
 have hz:=qmj (padN l k)
 refine all_cons (decide_eq_true (by omega)) (all_cons (decide_eq_true (by omega)) (all_cons ⟨by omega,by omega⟩ (all_cons ⟨by omega,by omega⟩ (all_cons (by omega) (all_cons (decide_eq_false (by omega)) (all_cons (decide_eq_true (by omega))
  (all_cons ⟨by omega,by omega⟩ (all_cons ⟨by omega,by rw [hp]; omega,by rw [hp]; omega⟩ (all_cons ⟨by omega,qda Z⟩ (all_cons ⟨by omega,⟨by omega,by omega⟩,rfl⟩ hr))))))))))
theorem jid {Z:Nat->BitVec 8} {l o3 n3 m3 k:Nat} {r:List Prop} (h:k<l) (h':l<k+16) (h1:l<=m3) (h2:o3+l<=n3) (hr:∀ p∈r,p):∀ p∈jll Z l o3 n3 m3 k r,p:=by
 have hp:=qby h h'
 have hz:=qmj (padN l k)
 have e:l - k+(qzc (padN l k)).size=16:=by omega
 refine qx2 h h' h1 h2 (all_cons ?_ (all_cons (decide_eq_true e) (all_cons (qda _) (all_cons ⟨Nat.le_refl _,by omega⟩ (all_cons (Nat.le_refl _) (all_cons (Nat.le_refl _) (all_cons (decide_eq_false (by omega)) hr)))))))
 rw [e]; rfl
theorem jjd {m:Nat} {X Y Z:Nat->BitVec 8} {n n2 n3 m3 o o2 o3:Nat} (h1:o+16<=n) (h2:o2+16<=n2) (h3:o3+16 * m<=n3) (h4:16 * m<=m3):∀ p∈jml m X Y Z n n2 n3 m3 o o2 o3,p :=
 qye h1 h2 (qye h1 h2 (qnk (all_cons (Nat.le_refl _) qaa) m 0 fun j s _ hj hs=>qpw (by omega) (by omega) hs))
theorem jkd {m:Nat} {X Y Z:Nat->BitVec 8} {n n2 n3 m3 l o o2 o3:Nat} (h1:o+16<=n) (h2:o2+16<=n2) (h3:o3+l<=n3) (h4:l<=m3) (hm:1<=m) (hm2:m<=14) (hl:16 * m<l) (hl2:l<16 * m+16):∀ p∈jol m X Y Z n n2 n3 m3 l o o2 o3,p :=
 qye h1 h2 (all_cons (decide_eq_false (by omega)) (all_cons (decide_eq_false (by omega)) (qye h1 h2 (qnk (jid hl hl2 h4 h3 (all_cons ⟨by omega,by omega⟩ (all_cons (decide_eq_false (by omega)) (all_cons ⟨by omega,by omega,by omega⟩ qaa)))) m 0 fun j s _ hj hs=>qx8 (by omega) h4 h3 hs))))
theorem q3k {Z:Nat->BitVec 8} {o3 n3 k:Nat} {r:List Prop} (h:o3+k+16<=n3) (hr:∀ p∈r,p):∀ p∈qwp Z o3 n3 k r,p:=all_cons (qda Z) (all_cons h hr)
theorem qhz {Z:Nat->BitVec 8} {o3 n3 k:Nat} {r:List Prop} (h:o3+k+16<=n3) (hr:∀ p∈r,p):∀ p∈qs8 Z o3 n3 k r,p:=all_cons (qda Z) (all_cons ⟨Nat.le_refl _,h⟩ hr)
theorem q0p {Z:Nat->BitVec 8} {o3 n3 k:Nat} {r:List Prop} (h:o3+k+16<=n3) (hr:∀ p∈r,p):∀ p∈qow Z o3 n3 k r,p:=q3k h (all_cons ⟨Nat.le_refl _,Nat.le_refl _⟩ hr)
theorem qwr {Z:Nat->BitVec 8} {o3 n3 k k':Nat} {r:List Prop} (h:o3+k+16<=n3) (h':o3+k'+16<=n3) (hr:∀ p∈r,p):∀ p∈qys Z o3 n3 k k' r,p:=q3k h' (qhz h hr)
theorem qy2 {Z:Nat->BitVec 8} {o3 n3 n:Nat} {r:List Prop} (h:o3+16 * n<=n3) (hr:∀ p∈r,p):∀ p∈runB Z o3 n3 n r,p:=by
 cases n with
 | zero=>exact hr
 | succ j =>
   refine q0p (by omega) ?_
   have key:∀ (k i:Nat),i+k<=j->∀ p∈(Nat.rec (motive:=fun _=>Nat->List Prop) (fun _=>r) (fun _ ih i=>qys Z o3 n3 (16 * i) (16 * Nat.succ i) (ih (Nat.succ i))) k i:List Prop),p:=by
    intro k
    induction k with
    | zero=>intro i _; exact hr
    | succ k ih=>intro i hi; exact qwr (by omega) (by show o3+16 * (i+1)+16<=n3; omega) (ih (i+1) (by omega))
   exact key j 0 (by omega)
theorem jld {m:Nat} {X Y Z:Nat->BitVec 8} {n n2 n3 m3 o o2 o3:Nat} (h1:o+16<=n) (h2:o2+16<=n2) (h3:o3+(16 * m+32)<=n3) (h4:16 * m+32<=m3):∀ p∈jql m X Y Z n n2 n3 m3 o o2 o3,p:=by
 refine qye h1 h2 (qnk (q3k (by omega) (qy2 (by omega) ?_)) (m+2) 0 fun j s _ hj hs=>all_cons (by omega) hs)
 have hlast:∀ p∈qys Z o3 n3 (16 * m+16) (16 * m) [16 * m+32<=16 * m+32],p:=qwr (by omega) (by omega) (all_cons (Nat.le_refl _) qaa)
 cases m with
 | zero=>exact q0p (by omega) hlast
 | succ j=>exact qwr (by omega) (by omega) hlast
theorem jmd {m:Nat} {X Y Z:Nat->BitVec 8} {n n2 n3 m3 l o o2 o3:Nat} (h1:o+16<=n) (h2:o2+16<=n2) (h3:o3+l<=n3) (h4:l<=m3) (hm2:m<=14) (hl:16 * m+16<l) (hl2:l<16 * m+32):∀ p∈jrl m X Y Z n n2 n3 m3 l o o2 o3,p:=by
 have hk:qpd l (16 * m+16)=l - (16 * m+16):=by unfold qpd; omega
 have hp:=qby hl (by omega)
 have hz:=qmj (padN l (16 * m+16))
 refine qye h1 h2 (all_cons (decide_eq_false (by omega)) (all_cons (decide_eq_false (by omega)) (qnk (qx2 hl (by omega) h4 h3 ?_) (m+1) 0 fun j s _ hj hs=>all_cons (decide_eq_true (by omega)) (all_cons (decide_eq_false (by omega)) (all_cons (by omega) hs)))))
 refine all_cons (decide_eq_false (by omega)) (all_cons ⟨by omega,by omega⟩ (q3k (by omega) (all_cons ⟨by omega,by omega⟩ (all_cons ⟨by omega,by omega⟩ (all_cons ⟨by omega,by omega⟩ (all_cons (by omega) (all_cons ⟨by omega,qda _⟩ (all_cons ⟨by omega,⟨by omega,by omega⟩,rfl⟩ (qy2 (by omega)
  (all_cons (decide_eq_true (by omega)) (all_cons (qda _) (all_cons (by omega) ?_))))))))))))
 have hlast:∀ p∈qwp Z o3 n3 (16 * m) ((decide (qpd l (16 * m+16)+(16 - qpd l (16 * m+16))=16)=true)::IsB (qea (qak (qba (q9e (qha X o))) Z l o3 (16 * m)))
     :: (16<=16/\0+16<=qpd l (16 * m+16)+(16 - qpd l (16 * m+16)))::(0<=(l:Int)/\(l:Int)<=((16 * m+32:Nat):Int))::(decide (l=0)=false)::[0+l<=16 * m+32/\q7e l 1]),p :=
  q3k (by omega) (all_cons (decide_eq_true (by omega)) (all_cons (qda _) (all_cons ⟨Nat.le_refl _,by omega⟩ (all_cons ⟨by omega,by omega⟩ (all_cons (decide_eq_false (by omega)) (all_cons ⟨by omega,by omega,by omega⟩ qaa))))))
 cases m with
 | zero=>exact all_cons ⟨Nat.le_refl _,Nat.le_refl _⟩ hlast
 | succ j=>exact qhz (by omega) hlast
theorem qcy {I:Ifc} {base nm:Nat} (h:I.names.length<=nm):I.out base [nm] nm=base:=by
 have hk:I.known nm=false:=by
  rw [Bool.eq_false_iff]; intro hk
  have:=(I.known_iff nm).1 hk; omega
 unfold Ifc.out
 rw [hk,boolC_false]
 show base+boolC (Nat.beq nm nm) 0 _=base
 rw [show Nat.beq nm nm=true from Nat.beq_refl nm]; rfl
theorem qnm {I:Ifc} {nm:Nat}:I.seen [nm] nm=true:=by
 unfold Ifc.seen
 cases I.known nm with
 | true=>rfl
 | false =>
   show boolC (Nat.beq nm nm) true _=true
   rw [show Nat.beq nm nm=true from Nat.beq_refl nm]; rfl
theorem jwg (f:Nat->Nat) (nm:Nat) (l:SN):(qwg nm l).ren f=qwg (f nm) l:=rfl
theorem jxg {nm:Nat} {l l':SN} (h:l.den=l'.den):(qwg nm l).Imp (qwg nm l'):=by
 intro γ x hx
 unfold qwg at *
 simp only [SV.den,SV.denL] at hx ⊢
 rw [← h]; exact hx
theorem jnd {p:Nat->Bool} {nm:Nat} (h:p nm=true) (l:SN):(qwg nm l).uses p=true:=by
 unfold qwg
 simp only [SV.uses,SV.usesL,SC.uses,h,Bool.and_self]
theorem jod {xs:Blk} {l:Nat} (h:xs.length=l):(Cells.lst (bx xs)).Imp (.fn (qea (qba xs)) l):=by
 intro γ vs hv
 subst h
 exact qco hv
def jsl (xs:Blk) (l:Nat) (E:SO):Prop:=(E=.own (.lst (bx xs)) false 5/\xs.length=l)\/E=.own (.fn (fun i=>qea (qba xs) (0+i)) l) false 5
theorem qy8 {p:Nat->Bool} {g:Nat->Nat} {e:Option SO} {xs:Blk} {l:Nat} {E:SO} (h:jsl xs l E) (he:e=some E):q5d p g e (.own (.fn (qea (qba xs)) l) false 5):=by
 rcases h with ⟨rfl,hl⟩ | rfl
 . refine q0k he (qfd _ _) ?_
   show (Cells.lst (SV.renL g (bx xs))).Imp _
   rw [q9d]
   exact jod hl
 . refine q0k he (fun _=>rfl) ?_
   show (Cells.fn (fun i=>qea (qba xs) (0+i)) l).Imp _
   have e:(fun i=>qea (qba xs) (0+i))=qea (qba xs):=by funext i; rw [Nat.zero_add]
   rw [e]; exact .refl _
def qdy (f:FuncId) (F:Blk->Blk->(Nat->BitVec 8)->Nat->Blk):Prop:=∀ (X Y Z:Nat->BitVec 8) (n m1 n2 m2 n3 m3 o o2 o3 l:Nat),o+16<=n->o2+16<=n2->o3+l<=n3->l<=m3->16<=l->l<=224 ->
 ∃ (nm:Nat) (lS:SN) (ds:List Bool) (ps:List Prop) (E:SO),3<=nm/\lS.den=l/\(∀ z,outZ [nm] (qca quf 20000 f (qup m1 m2 m3 o o2 o3 lS) (qvp X Y Z n n2 n3)) ds z=(ps,some (qwg nm lS,[some E])))/\(∀ p∈ps,p)/\jsl (F (qha X o) (qha Y o2) (fun j=>Z (o3+j)) l) l E
theorem jyg (X Y Z:Nat->BitVec 8) (n m1 n2 m2 n3 m3 o o2 o3:Nat) (z:Nat->Nat->Nat):∀ m,1<=m->m<=14->qxg m X Y Z n m1 n2 m2 n3 m3 o o2 o3 z=qyg m X Y Z n n2 n3 m3 o o2 o3
 | 1,_,_=>encF1 X Y Z n m1 n2 m2 n3 m3 o o2 o3 z
 | 2,_,_=>encF2 X Y Z n m1 n2 m2 n3 m3 o o2 o3 z
 | 3,_,_=>encF3 X Y Z n m1 n2 m2 n3 m3 o o2 o3 z
 | 4,_,_=>encF4 X Y Z n m1 n2 m2 n3 m3 o o2 o3 z
 | 5,_,_=>encF5 X Y Z n m1 n2 m2 n3 m3 o o2 o3 z
 | 6,_,_=>encF6 X Y Z n m1 n2 m2 n3 m3 o o2 o3 z
 | 7,_,_=>encF7 X Y Z n m1 n2 m2 n3 m3 o o2 o3 z
 | 8,_,_=>encF8 X Y Z n m1 n2 m2 n3 m3 o o2 o3 z
 | 9,_,_=>encF9 X Y Z n m1 n2 m2 n3 m3 o o2 o3 z
 | 10,_,_=>jbt X Y Z n m1 n2 m2 n3 m3 o o2 o3 z
 | 11,_,_=>jct X Y Z n m1 n2 m2 n3 m3 o o2 o3 z
 | 12,_,_=>jdt X Y Z n m1 n2 m2 n3 m3 o o2 o3 z
 | 13,_,_=>jet X Y Z n m1 n2 m2 n3 m3 o o2 o3 z
 | 14,_,_=>jft X Y Z n m1 n2 m2 n3 m3 o o2 o3 z
 | 0,h,_=>absurd h (by omega)
 | m+15,_,h=>absurd h (by omega)
theorem jzg (X Y Z:Nat->BitVec 8) (n m1 n2 m2 n3 m3 l o o2 o3:Nat) (z:Nat->Nat->Nat):∀ m,1<=m->m<=13->qkh m X Y Z n m1 n2 m2 n3 m3 l o o2 o3 z=qlh m X Y Z n n2 n3 m3 l o o2 o3
 | 1,_,_=>encP1 X Y Z n m1 n2 m2 n3 m3 l o o2 o3 z
 | 2,_,_=>encP2 X Y Z n m1 n2 m2 n3 m3 l o o2 o3 z
 | 3,_,_=>encP3 X Y Z n m1 n2 m2 n3 m3 l o o2 o3 z
 | 4,_,_=>encP4 X Y Z n m1 n2 m2 n3 m3 l o o2 o3 z
 | 5,_,_=>encP5 X Y Z n m1 n2 m2 n3 m3 l o o2 o3 z
 | 6,_,_=>encP6 X Y Z n m1 n2 m2 n3 m3 l o o2 o3 z
 | 7,_,_=>encP7 X Y Z n m1 n2 m2 n3 m3 l o o2 o3 z
 | 8,_,_=>encP8 X Y Z n m1 n2 m2 n3 m3 l o o2 o3 z
 | 9,_,_=>encP9 X Y Z n m1 n2 m2 n3 m3 l o o2 o3 z
 | 10,_,_=>jgt X Y Z n m1 n2 m2 n3 m3 l o o2 o3 z
 | 11,_,_=>jht X Y Z n m1 n2 m2 n3 m3 l o o2 o3 z
 | 12,_,_=>jit X Y Z n m1 n2 m2 n3 m3 l o o2 o3 z
 | 13,_,_=>jjt X Y Z n m1 n2 m2 n3 m3 l o o2 o3 z
 | 0,h,_=>absurd h (by omega)
 | m+14,_,h=>absurd h (by omega)
theorem j0g (X Y Z:Nat->BitVec 8) (n m1 n2 m2 n3 m3 o o2 o3:Nat) (z:Nat->Nat->Nat):∀ m,m<=12->qmh m X Y Z n m1 n2 m2 n3 m3 o o2 o3 z=qnh m X Y Z n n2 n3 m3 o o2 o3
 | 0,_=>decF0 X Y Z n m1 n2 m2 n3 m3 o o2 o3 z
 | 1,_=>decF1 X Y Z n m1 n2 m2 n3 m3 o o2 o3 z
 | 2,_=>decF2 X Y Z n m1 n2 m2 n3 m3 o o2 o3 z
 | 3,_=>decF3 X Y Z n m1 n2 m2 n3 m3 o o2 o3 z
 | 4,_=>decF4 X Y Z n m1 n2 m2 n3 m3 o o2 o3 z
 | 5,_=>decF5 X Y Z n m1 n2 m2 n3 m3 o o2 o3 z
 | 6,_=>decF6 X Y Z n m1 n2 m2 n3 m3 o o2 o3 z
 | 7,_=>decF7 X Y Z n m1 n2 m2 n3 m3 o o2 o3 z
 | 8,_=>decF8 X Y Z n m1 n2 m2 n3 m3 o o2 o3 z
 | 9,_=>decF9 X Y Z n m1 n2 m2 n3 m3 o o2 o3 z
 | 10,_=>jkt X Y Z n m1 n2 m2 n3 m3 o o2 o3 z
 | 11,_=>jlt X Y Z n m1 n2 m2 n3 m3 o o2 o3 z
 | 12,_=>jmt X Y Z n m1 n2 m2 n3 m3 o o2 o3 z
 | m+13,h=>absurd h (by omega)
theorem j1g (X Y Z:Nat->BitVec 8) (n m1 n2 m2 n3 m3 l o o2 o3:Nat) (z:Nat->Nat->Nat):∀ m,m<=12->qoh m X Y Z n m1 n2 m2 n3 m3 l o o2 o3 z=qph m X Y Z n n2 n3 m3 l o o2 o3
 | 0,_=>decP0 X Y Z n m1 n2 m2 n3 m3 l o o2 o3 z
 | 1,_=>decP1 X Y Z n m1 n2 m2 n3 m3 l o o2 o3 z
 | 2,_=>decP2 X Y Z n m1 n2 m2 n3 m3 l o o2 o3 z
 | 3,_=>decP3 X Y Z n m1 n2 m2 n3 m3 l o o2 o3 z
 | 4,_=>decP4 X Y Z n m1 n2 m2 n3 m3 l o o2 o3 z
 | 5,_=>decP5 X Y Z n m1 n2 m2 n3 m3 l o o2 o3 z
 | 6,_=>decP6 X Y Z n m1 n2 m2 n3 m3 l o o2 o3 z
 | 7,_=>decP7 X Y Z n m1 n2 m2 n3 m3 l o o2 o3 z
 | 8,_=>decP8 X Y Z n m1 n2 m2 n3 m3 l o o2 o3 z
 | 9,_=>decP9 X Y Z n m1 n2 m2 n3 m3 l o o2 o3 z
 | 10,_=>jnt X Y Z n m1 n2 m2 n3 m3 l o o2 o3 z
 | 11,_=>jot X Y Z n m1 n2 m2 n3 m3 l o o2 o3 z
 | 12,_=>jpt X Y Z n m1 n2 m2 n3 m3 l o o2 o3 z
 | m+13,h=>absurd h (by omega)
theorem j2g:qdy 59 encF:=by
 intro X Y Z n m1 n2 m2 n3 m3 o o2 o3 l h1 h2 h3 h4 h5 h6
 by_cases hr:l % 16=0
 . obtain ⟨m,rfl⟩:∃ m,l=16 * m:=⟨l / 16,by omega⟩
   have hxs:encF (qha X o) (qha Y o2) (fun j=>Z (o3+j)) (16 * m)=encJ X Y o o2 (q6c Z o3 m):=by unfold encF encJ; rw [qt8]
   refine ⟨21+6 * m,.lit (16 * m),[],_,_,by omega,rfl,fun z=>jyg X Y Z n m1 n2 m2 n3 m3 o o2 o3 z m (by omega) (by omega),jjd h1 h2 h3 h4,.inl ⟨by rw [hxs],?_⟩⟩
   rw [hxs]
   unfold encJ
   rw [q6h _ (fun b hb=>qgz _ _ _ b (qz5 _ _ hb)),qzp,qrq,q5h]
 . obtain ⟨m,hm,hm2⟩:∃ m,16 * m<l/\l<16 * m+16:=⟨l / 16,by omega,by omega⟩
   have hxs:encF (qha X o) (qha Y o2) (fun j=>Z (o3+j)) l=encJ X Y o o2 (app (q6c Z o3 m) [qha (qtp Z l o3 (16 * m)) 0]):=by unfold encF encJ; rw [qu8 Z o3 m l hm hm2]
   exact ⟨28+6 * m,.sym l,_,_,_,by omega,rfl,fun z=>jzg X Y Z n m1 n2 m2 n3 m3 l o o2 o3 z m (by omega) (by omega),jkd h1 h2 h3 h4 (by omega) (by omega) hm hm2,.inr (by rw [hxs])⟩
theorem j3g:qdy 60 decF:=by
 intro X Y Z n m1 n2 m2 n3 m3 o o2 o3 l h1 h2 h3 h4 h5 h6
 by_cases h16:l=16
 . subst h16
   have hxs:decF (qha X o) (qha Y o2) (fun j=>Z (o3+j)) 16=decJ X Y o o2 (q6c Z o3 1):=by unfold decF decJ; rw [jhd]
   refine ⟨18,.lit 16,[],_,_,by omega,rfl,fun z=>dec1 X Y Z n m1 n2 m2 n3 m3 o o2 o3 z,?_,.inl ⟨by rw [hxs],?_⟩⟩
   . exact qye h1 h2 (all_cons (by omega) (q0p (by omega) (all_cons (Nat.le_refl _) qaa)))
   . rw [hxs]
     unfold decJ
     rw [q6h _ (qmk _ _ _),qqh,q5h]
 by_cases hr:l % 16=0
 . obtain ⟨m,rfl⟩:∃ m,l=16 * m+32:=⟨l / 16 - 2,by omega⟩
   have hxs:decF (qha X o) (qha Y o2) (fun j=>Z (o3+j)) (16 * m+32)=decJ X Y o o2 (swL (q6c Z o3 (m+2))):=by unfold decF decJ; rw [qv8]
   refine ⟨26+6 * m,.lit (16 * m+32),[],_,_,by omega,rfl,fun z=>j0g X Y Z n m1 n2 m2 n3 m3 o o2 o3 z m (by omega),jld h1 h2 h3 h4,.inl ⟨by rw [hxs],?_⟩⟩
   rw [hxs]
   unfold decJ
   rw [q6h _ (qmk _ _ _),qqh,qzp,q5h]; omega
 . obtain ⟨m,hm,hm2⟩:∃ m,16 * m+16<l/\l<16 * m+32:=⟨l / 16 - 1,by omega,by omega⟩
   have hxs:decF (qha X o) (qha Y o2) (fun j=>Z (o3+j)) l=decJ X Y o o2 (app (q6c Z o3 m) [qha (qak (qba (q9e (qha X o))) Z l o3 (16 * m)) 0,qha Z (o3+16 * m)]):=by
    unfold decF decJ; rw [qw8 _ Z o3 m l hm hm2]
   exact ⟨28+6 * m,.sym l,_,_,_,by omega,rfl,fun z=>j1g X Y Z n m1 n2 m2 n3 m3 l o o2 o3 z m (by omega),jmd h1 h2 h3 h4 (by omega) hm hm2,.inr (by rw [hxs])⟩
end
end Go.Proofs.YtcpafideogckmaaGreatDoor.Aes
