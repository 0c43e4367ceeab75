/-
  Chained blocks, fourth part: what Encrypt and Decrypt come to, for every number of bytes from 16 to 224.
-/
import Derived.Test.YtbmgahpjgefjaaaGreatDoorOzCts3
namespace Go.Proofs.YtbmgahpjgefjaaaGreatDoor.Aes
open Go.Sim
open Go.Proofs
variable {α:Type}
noncomputable def qm0 (P:Nat→BitVec 8) (l:Nat):Nat→BitVec 8:=fun j=>if j<l then P j else 0#8
def numB (l:Nat):Nat:=(l+15) / 16
noncomputable def q9v (P:Nat→BitVec 8) (l:Nat):List Blk:=q4c (qm0 P l) 0 (numB l)
noncomputable def qzx (ks:Nat→BitVec 8) (P:Nat→BitVec 8) (l k:Nat):Nat→BitVec 8:=fun j=>if j<l - (k+16) then P (k+16+j) else qaa (decL ks (qha P k)) j
noncomputable def q2m (ks:Nat→BitVec 8) (P:Nat→BitVec 8) (l:Nat):List Blk:=if l≤16 then q4c P 0 1 else app (q4c P 0 (numB l - 2)) [qha (qzx ks P l (16 * (numB l - 2))) 0,qha P (16 * (numB l - 2))]
noncomputable def encF (K V:Blk) (P:Nat→BitVec 8) (l:Nat):Blk:=q1m (swL (chainL (qaa (q5e K)) (q9v P l) V))
noncomputable def decF (K V:Blk) (P:Nat→BitVec 8) (l:Nat):Blk:=q1m (q1j (qaa (q5e K)) (q2m (qaa (q5e K)) P l) V)
theorem qti {X Y:Nat→BitVec 8} {o o2:Nat} (h:∀ j,j<16→X (o+j)=Y (o2+j)):qha X o=qha Y o2:=by
  unfold qha
  rw [qwa,qwa,q5f]
  apply List.map_congr_left
  intro i hi
  rw [List.mem_range'] at hi
  obtain ⟨j,hj,rfl⟩:=hi
  exact h _ (by omega)
theorem q3j {X Y:Nat→BitVec 8} {o o2 n:Nat} (h:∀ j,j<16 * n→X (o+j)=Y (o2+j)):q4c X o n=q4c Y o2 n:=by
  unfold q4c
  rw [qwa,qwa,q5f]
  apply List.map_congr_left
  intro i hi
  rw [List.mem_range'] at hi
  obtain ⟨j,hj,rfl⟩:=hi
  refine qti fun k hk => ?_
  rw [Nat.add_assoc,Nat.add_assoc]
  exact h _ (by omega)
theorem qsp (X:Nat→BitVec 8) (o n:Nat):q4c X o (n+1)=app (q4c X o n) [qha X (o+16 * n)]:=by
  unfold q4c
  rw [qwa,qwa,q5f,q5f,qhb,List.range'_concat,List.map_append,Nat.one_mul,Nat.zero_add]
  rfl
theorem qxh (X:Nat→BitVec 8) (o n:Nat):(q4c X o n).length=n:=by
  unfold q4c; rw [qwa,q5f]; simp
theorem qv4 (n i:Nat):((qxc n).data.getD i 0).toBitVec=0#8:=by
  unfold qxc
  rw [Array.getD_eq_getD_getElem?,Array.getElem?_replicate]
  split <;> rfl
theorem q0x {l k:Nat} (h:k<l) (h2:l<k+16):padN l k=16 - (l - k):=by unfold padN; omega
theorem qn8 (Z:Nat→BitVec 8) (o m:Nat):q9v (fun j=>Z (o+j)) (16 * m)=q4c Z o m:=by
  unfold q9v
  rw [show numB (16 * m)=m from by unfold numB; omega]
  refine q3j fun j hj => ?_
  unfold qm0
  rw [Nat.zero_add,if_pos hj]
theorem qo8 (Z:Nat→BitVec 8) (o m l:Nat) (h:16 * m<l) (h2:l<16 * m+16):q9v (fun j=>Z (o+j)) l=app (q4c Z o m) [qha (qop Z l o (16 * m)) 0]:=by
  unfold q9v
  rw [show numB l=m+1 from by unfold numB; omega,qsp]
  congr 1
  · refine q3j fun j hj => ?_
    unfold qm0
    rw [Nat.zero_add,if_pos (by omega)]
  · congr 1
    refine qti fun j hj => ?_
    unfold qm0 qop catB
    rw [Nat.zero_add,Nat.zero_add]
    by_cases hlt:16 * m+j<l
    · rw [if_pos hlt,if_pos (by omega)]
      show Z (o+(16 * m+j))=Z (o+16 * m+j)
      rw [Nat.add_assoc]
    · rw [if_neg hlt,if_neg (by omega)]
      exact (qv4 _ _).symm
theorem qu5 (a b:Blk):∀ l:List Blk,swL (app l [a,b])=app l [b,a]
  | []=>rfl
  | [x]=>rfl
  | x::y::r=>by
    have:=qu5 a b (y::r)
    have e:swL (app (x::y::r) [a,b])=x::swL (app (y::r) [a,b]):=by
      cases r with
      | nil=>rfl
      | cons=>rfl
    rw [e,this]; rfl
theorem j1c {β:Type} (a b c:List β):app (app a b) c=app a (app b c):=by simp only [qhb,List.append_assoc]
theorem j2c (ks:Nat→BitVec 8) (Z:Nat→BitVec 8) (o:Nat):q2m ks (fun j=>Z (o+j)) 16=q4c Z o 1:=by
  unfold q2m
  rw [if_pos (Nat.le_refl _)]
  exact q3j fun j _=>by rw [Nat.zero_add]
theorem qp8 (ks:Nat→BitVec 8) (Z:Nat→BitVec 8) (o m:Nat):q2m ks (fun j=>Z (o+j)) (16 * m+32)=swL (q4c Z o (m+2)):=by
  unfold q2m
  rw [if_neg (by omega),show numB (16 * m+32) - 2=m from by unfold numB; omega]
  have e:q4c Z o (m+2)=app (q4c Z o m) [qha Z (o+16 * m),qha Z (o+16 * m+16)]:=by
    rw [qsp,qsp,j1c]; rfl
  rw [e,qu5]
  congr 1
  · exact q3j fun j _=>by rw [Nat.zero_add]
  · congr 1
    · refine qti fun j hj => ?_
      unfold qzx
      rw [Nat.zero_add,if_pos (by omega)]
      show Z (o+(16 * m+16+j))=Z (o+16 * m+16+j)
      rw [Nat.add_assoc,Nat.add_assoc,Nat.add_assoc]
theorem qq8 (ks:Nat→BitVec 8) (Z:Nat→BitVec 8) (o m l:Nat) (h:16 * m+16<l) (h2:l<16 * m+32):q2m ks (fun j=>Z (o+j)) l=app (q4c Z o m) [qha (q2j ks Z l o (16 * m)) 0,qha Z (o+16 * m)]:=by
  unfold q2m
  rw [if_neg (by omega),show numB l - 2=m from by unfold numB; omega]
  congr 1
  · exact q3j fun j _=>by rw [Nat.zero_add]
  · congr 1
    · refine qti fun j hj => ?_
      have hk:qod l (16 * m+16)=l - (16 * m+16):=by unfold qod; omega
      unfold qzx q2j catB
      rw [Nat.zero_add,hk]
      by_cases hlt:j<l - (16 * m+16)
      · rw [if_pos hlt,if_pos hlt]
        show Z (o+(16 * m+16+j))=if 0+j<l - (16 * m+16) then Z (o+(16 * m+16)+(0+j)) else _
        rw [Nat.zero_add,if_pos hlt,Nat.add_assoc o]
      · rw [if_neg hlt,if_neg hlt]
        have e:qha (fun j=>Z (o+j)) (16 * m)=qha Z (o+16 * m):=qti fun j _=>by show Z (o+(16 * m+j))=Z (o+16 * m+j); rw [Nat.add_assoc]
        rw [e]
        show qaa _ j=qaa _ (0+(l - (16 * m+16)) * 1+(j - (l - (16 * m+16))))
        congr 1; omega
theorem qyh:∀ l:List Blk,(∀ b∈l,b.length=16)→(q1m l).length=16 * l.length
  | [],_=>rfl
  | b::l,h=>by
    show (app b (q1m l)).length=_
    rw [qhb,List.length_append,qyh l (fun x hx=>h x (List.mem_cons_of_mem _ hx)),h b List.mem_cons_self,List.length_cons]; omega
theorem qv5:∀ (l:List Blk) (x:Blk),x∈swL l→x∈l
  | [],x,h=>h
  | [a],x,h=>h
  | [a,b],x,h=>by
    have h:x∈[b,a]:=h
    simp only [List.mem_cons,List.not_mem_nil,or_false] at h ⊢
    exact h.symm
  | a::b::c::r,x,h=>by
    have h:x∈a::swL (b::c::r):=h
    rcases List.mem_cons.1 h with rfl | h
    · exact List.mem_cons_self
    · exact List.mem_cons_of_mem _ (qv5 _ _ h)
theorem qtp:∀ l:List Blk,(swL l).length=l.length
  | []=>rfl
  | [_]=>rfl
  | [_,_]=>rfl
  | a::b::c::r=>by
    show (a::swL (b::c::r)).length=_
    rw [List.length_cons,qtp (b::c::r)]; rfl
theorem qjq (ks:Nat→BitVec 8):∀ (bs:List Blk) (v:Blk),(chainL ks bs v).length=bs.length
  | [],_=>rfl
  | b::r,v=>by
    show (encL ks (addL v b)::chainL ks r _).length=_
    rw [List.length_cons,qjq ks r,List.length_cons]
theorem q8y (ks:Nat→BitVec 8):∀ (bs:List Blk) (v:Blk),∀ b∈chainL ks bs v,b.length=16
  | [],_,b,h=>by cases h
  | c::r,v,b,h=>by
    have h:b∈encL ks (addL v c)::chainL ks r (encL ks (addL v c)):=h
    rcases List.mem_cons.1 h with rfl | h
    · rfl
    · exact q8y ks r _ b h
theorem qjh (ks:Nat→BitVec 8):∀ (bs:List Blk) (v:Blk),(q1j ks bs v).length=bs.length
  | [],_=>rfl
  | b::r,v=>by
    show (addL (decL ks b) v::q1j ks r b).length=_
    rw [List.length_cons,qjh ks r,List.length_cons]
theorem qfk (ks:Nat→BitVec 8):∀ (bs:List Blk) (v:Blk),∀ b∈q1j ks bs v,b.length=16
  | [],_,b,h=>by cases h
  | c::r,v,b,h=>by
    have h:b∈addL (decL ks c) v::q1j ks r c:=h
    rcases List.mem_cons.1 h with rfl | h
    · rfl
    · exact qfk ks r _ b h
theorem qwe {X Y:Nat→BitVec 8} {o n o2 n2:Nat} {r:List Prop} (h1:o+16≤n) (h2:o2+16≤n2) (hr:∀ p∈r,p):∀ p∈qwh X Y o n o2 n2 r,p:=all_cons (qea X) (all_cons h1 (all_cons (qea Y) (all_cons h2 hr)))
theorem qgk {f:Nat→List Prop→List Prop} {r:List Prop} (hr:∀ p∈r,p):∀ (m i:Nat),(∀ j s,i≤j→j<i+m→(∀ p∈s,p)→∀ p∈f j s,p)→∀ p∈qco f m i r,p:=by
  intro m
  induction m with
  | zero=>intro i _; exact hr
  | succ m ih =>
    intro i h
    exact h i _ (Nat.le_refl _) (by omega) (ih (i+1) fun j s h1 h2=>h j s (by omega) (by omega))
theorem qaw {Z:Nat→BitVec 8} {o3 n3 m3 i:Nat} {r:List Prop} (h1:16 * i+16≤m3) (h2:o3+16 * i+16≤n3) (hr:∀ p∈r,p):∀ p∈qr2 Z o3 n3 m3 i r,p :=
  all_cons h1 (all_cons (qea Z) (all_cons ⟨Nat.le_refl _,h2⟩ (all_cons (Nat.le_refl _) (all_cons (Nat.le_refl _) hr))))
theorem qr8 {Z:Nat→BitVec 8} {l o3 n3 m3 i:Nat} {r:List Prop} (h0:16 * i+16≤l) (h1:l≤m3) (h2:o3+l≤n3) (hr:∀ p∈r,p):∀ p∈j0c Z l o3 n3 m3 i r,p :=
  all_cons (decide_eq_true (by omega)) (all_cons (decide_eq_false (by omega)) (qaw (by omega) (by omega) hr))
theorem qs2 {Z:Nat→BitVec 8} {l o3 n3 m3 k:Nat} {r:List Prop} (h:k<l) (h':l<k+16) (h1:l≤m3) (h2:o3+l≤n3) (hr:∀ p∈r,p):∀ p∈cutC Z l o3 n3 m3 k r,p:=by
  have hp:=q0x h h'
  have hz:=qfj (padN l k)
  refine all_cons (decide_eq_true (by omega)) (all_cons (decide_eq_true (by omega)) (all_cons ⟨by omega,by omega⟩ (all_cons ⟨by omega,by omega⟩ (all_cons (by omega) (all_cons (decide_eq_false (by omega)) (all_cons (decide_eq_true (by omega))
    (all_cons ⟨by omega,by omega⟩ (all_cons ⟨by omega,by rw [hp]; omega,by rw [hp]; omega⟩ (all_cons ⟨by omega,qea Z⟩ (all_cons ⟨by omega,⟨by omega,by omega⟩,rfl⟩ hr))))))))))
theorem j3c {Z:Nat→BitVec 8} {l o3 n3 m3 k:Nat} {r:List Prop} (h:k<l) (h':l<k+16) (h1:l≤m3) (h2:o3+l≤n3) (hr:∀ p∈r,p):∀ p∈j2k Z l o3 n3 m3 k r,p:=by
  have hp:=q0x h h'
  have hz:=qfj (padN l k)
  have e:l - k+(qxc (padN l k)).size=16:=by omega
  refine qs2 h h' h1 h2 (all_cons ?_ (all_cons (decide_eq_true e) (all_cons (qea _) (all_cons ⟨Nat.le_refl _,by omega⟩ (all_cons (Nat.le_refl _) (all_cons (Nat.le_refl _) (all_cons (decide_eq_false (by omega)) hr)))))))
  rw [e]; rfl
theorem j4c {m:Nat} {X Y Z:Nat→BitVec 8} {n n2 n3 m3 o o2 o3:Nat} (h1:o+16≤n) (h2:o2+16≤n2) (h3:o3+16 * m≤n3) (h4:16 * m≤m3):∀ p∈j3k m X Y Z n n2 n3 m3 o o2 o3,p :=
  qwe h1 h2 (qwe h1 h2 (qgk (all_cons (Nat.le_refl _) qba) m 0 fun j s _ hj hs=>qaw (by omega) (by omega) hs))
theorem j5c {m:Nat} {X Y Z:Nat→BitVec 8} {n n2 n3 m3 l o o2 o3:Nat} (h1:o+16≤n) (h2:o2+16≤n2) (h3:o3+l≤n3) (h4:l≤m3) (hm:1≤m) (hm2:m≤14) (hl:16 * m<l) (hl2:l<16 * m+16):∀ p∈j5k m X Y Z n n2 n3 m3 l o o2 o3,p :=
  qwe h1 h2 (all_cons (decide_eq_false (by omega)) (all_cons (decide_eq_false (by omega)) (qwe h1 h2 (qgk (j3c hl hl2 h4 h3 (all_cons ⟨by omega,by omega⟩ (all_cons (decide_eq_false (by omega)) (all_cons ⟨by omega,by omega,by omega⟩ qba)))) m 0 fun j s _ hj hs=>qr8 (by omega) h4 h3 hs))))
theorem qyk {Z:Nat→BitVec 8} {o3 n3 k:Nat} {r:List Prop} (h:o3+k+16≤n3) (hr:∀ p∈r,p):∀ p∈qrp Z o3 n3 k r,p:=all_cons (qea Z) (all_cons h hr)
theorem q9y {Z:Nat→BitVec 8} {o3 n3 k:Nat} {r:List Prop} (h:o3+k+16≤n3) (hr:∀ p∈r,p):∀ p∈qm8 Z o3 n3 k r,p:=all_cons (qea Z) (all_cons ⟨Nat.le_refl _,h⟩ hr)
theorem qup {Z:Nat→BitVec 8} {o3 n3 k:Nat} {r:List Prop} (h:o3+k+16≤n3) (hr:∀ p∈r,p):∀ p∈q8v Z o3 n3 k r,p:=qyk h (all_cons ⟨Nat.le_refl _,Nat.le_refl _⟩ hr)
theorem qnr {Z:Nat→BitVec 8} {o3 n3 k k':Nat} {r:List Prop} (h:o3+k+16≤n3) (h':o3+k'+16≤n3) (hr:∀ p∈r,p):∀ p∈qls Z o3 n3 k k' r,p:=qyk h' (q9y h hr)
theorem qt2 {Z:Nat→BitVec 8} {o3 n3 n:Nat} {r:List Prop} (h:o3+16 * n≤n3) (hr:∀ p∈r,p):∀ p∈runB Z o3 n3 n r,p:=by
  cases n with
  | zero=>exact hr
  | succ j =>
    refine qup (by omega) ?_
    have key:∀ (k i:Nat),i+k≤j→∀ p∈(Nat.rec (motive:=fun _=>Nat→List Prop) (fun _=>r) (fun _ ih i=>qls Z o3 n3 (16 * i) (16 * Nat.succ i) (ih (Nat.succ i))) k i:List Prop),p:=by
      intro k
      induction k with
      | zero=>intro i _; exact hr
      | succ k ih=>intro i hi; exact qnr (by omega) (by show o3+16 * (i+1)+16≤n3; omega) (ih (i+1) (by omega))
    exact key j 0 (by omega)
theorem j6c {m:Nat} {X Y Z:Nat→BitVec 8} {n n2 n3 m3 o o2 o3:Nat} (h1:o+16≤n) (h2:o2+16≤n2) (h3:o3+(16 * m+32)≤n3) (h4:16 * m+32≤m3):∀ p∈j7k m X Y Z n n2 n3 m3 o o2 o3,p:=by
  refine qwe h1 h2 (qgk (qyk (by omega) (qt2 (by omega) ?_)) (m+2) 0 fun j s _ hj hs=>all_cons (by omega) hs)
  have hlast:∀ p∈qls Z o3 n3 (16 * m+16) (16 * m) [16 * m+32≤16 * m+32],p:=qnr (by omega) (by omega) (all_cons (Nat.le_refl _) qba)
  cases m with
  | zero=>exact qup (by omega) hlast
  | succ j=>exact qnr (by omega) (by omega) hlast
theorem j7c {m:Nat} {X Y Z:Nat→BitVec 8} {n n2 n3 m3 l o o2 o3:Nat} (h1:o+16≤n) (h2:o2+16≤n2) (h3:o3+l≤n3) (h4:l≤m3) (hm2:m≤14) (hl:16 * m+16<l) (hl2:l<16 * m+32):∀ p∈j8k m X Y Z n n2 n3 m3 l o o2 o3,p:=by
  have hk:qod l (16 * m+16)=l - (16 * m+16):=by unfold qod; omega
  have hp:=q0x hl (by omega)
  have hz:=qfj (padN l (16 * m+16))
  refine qwe h1 h2 (all_cons (decide_eq_false (by omega)) (all_cons (decide_eq_false (by omega)) (qgk (qs2 hl (by omega) h4 h3 ?_) (m+1) 0 fun j s _ hj hs=>all_cons (decide_eq_true (by omega)) (all_cons (decide_eq_false (by omega)) (all_cons (by omega) hs)))))
  refine all_cons (decide_eq_false (by omega)) (all_cons ⟨by omega,by omega⟩ (qyk (by omega) (all_cons ⟨by omega,by omega⟩ (all_cons ⟨by omega,by omega⟩ (all_cons ⟨by omega,by omega⟩ (all_cons (by omega) (all_cons ⟨by omega,qea _⟩ (all_cons ⟨by omega,⟨by omega,by omega⟩,rfl⟩ (qt2 (by omega)
    (all_cons (decide_eq_true (by omega)) (all_cons (qea _) (all_cons (by omega) ?_))))))))))))
  have hlast:∀ p∈qrp Z o3 n3 (16 * m) ((decide (qod l (16 * m+16)+(16 - qod l (16 * m+16))=16)=true)::IsB (qda (q2j (qaa (q5e (qha X o))) Z l o3 (16 * m)))
          :: (16≤16∧0+16≤qod l (16 * m+16)+(16 - qod l (16 * m+16)))::(0≤(l:Int)∧(l:Int)≤((16 * m+32:Nat):Int))::(decide (l=0)=false)::[0+l≤16 * m+32∧q3e l 1]),p :=
    qyk (by omega) (all_cons (decide_eq_true (by omega)) (all_cons (qea _) (all_cons ⟨Nat.le_refl _,by omega⟩ (all_cons ⟨by omega,by omega⟩ (all_cons (decide_eq_false (by omega)) (all_cons ⟨by omega,by omega,by omega⟩ qba))))))
  cases m with
  | zero=>exact all_cons ⟨Nat.le_refl _,Nat.le_refl _⟩ hlast
  | succ j=>exact q9y (by omega) hlast
theorem q1x {I:Ifc} {base nm:Nat} (h:I.names.length≤nm):I.out base [nm] nm=base:=by
  have hk:I.known nm=false:=by
    rw [Bool.eq_false_iff]; intro hk
    have:=(I.known_iff nm).1 hk; omega
  unfold Ifc.out
  rw [hk,boolC_false]
  show base+boolC (Nat.beq nm nm) 0 _=base
  rw [show Nat.beq nm nm=true from Nat.beq_refl nm]; rfl
theorem qkm {I:Ifc} {nm:Nat}:I.seen [nm] nm=true:=by
  unfold Ifc.seen
  cases I.known nm with
  | true=>rfl
  | false =>
    show boolC (Nat.beq nm nm) true _=true
    rw [show Nat.beq nm nm=true from Nat.beq_refl nm]; rfl
theorem jgg (f:Nat→Nat) (nm:Nat) (l:SN):(qpg nm l).ren f=qpg (f nm) l:=rfl
theorem jhg {nm:Nat} {l l':SN} (h:l.den=l'.den):(qpg nm l).Imp (qpg nm l'):=by
  intro γ x hx
  unfold qpg at *
  simp only [SV.den,SV.denL] at hx ⊢
  rw [← h]; exact hx
theorem j8c {p:Nat→Bool} {nm:Nat} (h:p nm=true) (l:SN):(qpg nm l).uses p=true:=by
  unfold qpg
  simp only [SV.uses,SV.usesL,SC.uses,h,Bool.and_self]
theorem j9c {xs:Blk} {l:Nat} (h:xs.length=l):(Cells.lst (bx xs)).Imp (.fn (qda (qaa xs)) l):=by
  intro γ vs hv
  subst h
  exact q8n hv
def j9k (xs:Blk) (l:Nat) (E:SO):Prop:=(E=.own (.lst (bx xs)) false 5∧xs.length=l)∨E=.own (.fn (fun i=>qda (qaa xs) (0+i)) l) false 5
theorem qs8 {p:Nat→Bool} {g:Nat→Nat} {e:Option SO} {xs:Blk} {l:Nat} {E:SO} (h:j9k xs l E) (he:e=some E):q4d p g e (.own (.fn (qda (qaa xs)) l) false 5):=by
  rcases h with ⟨rfl,hl⟩ | rfl
  · refine quk he (qed _ _) ?_
    show (Cells.lst (SV.renL g (bx xs))).Imp _
    rw [q7d]
    exact j9c hl
  · refine quk he (fun _=>rfl) ?_
    show (Cells.fn (fun i=>qda (qaa xs) (0+i)) l).Imp _
    have e:(fun i=>qda (qaa xs) (0+i))=qda (qaa xs):=by funext i; rw [Nat.zero_add]
    rw [e]; exact .refl _
def q2x (f:FuncId) (F:Blk→Blk→(Nat→BitVec 8)→Nat→Blk):Prop:=∀ (X Y Z:Nat→BitVec 8) (n m1 n2 m2 n3 m3 o o2 o3 l:Nat),o+16≤n→o2+16≤n2→o3+l≤n3→l≤m3→16≤l→l≤224 →
  ∃ (nm:Nat) (lS:SN) (ds:List Bool) (ps:List Prop) (E:SO),3≤nm∧lS.den=l∧(∀ z,outZ [nm] (qca qpf 20000 f (qpp m1 m2 m3 o o2 o3 lS) (qqp X Y Z n n2 n3)) ds z=(ps,some (qpg nm lS,[some E])))∧(∀ p∈ps,p)∧j9k (F (qha X o) (qha Y o2) (fun j=>Z (o3+j)) l) l E
theorem jig (X Y Z:Nat→BitVec 8) (n m1 n2 m2 n3 m3 o o2 o3:Nat) (z:Nat→Nat→Nat):∀ m,1≤m→m≤14→qqg m X Y Z n m1 n2 m2 n3 m3 o o2 o3 z=qrg m X Y Z n n2 n3 m3 o o2 o3
  | 1,_,_=>encF1 X Y Z n m1 n2 m2 n3 m3 o o2 o3 z
  | 2,_,_=>encF2 X Y Z n m1 n2 m2 n3 m3 o o2 o3 z
  | 3,_,_=>encF3 X Y Z n m1 n2 m2 n3 m3 o o2 o3 z
  | 4,_,_=>encF4 X Y Z n m1 n2 m2 n3 m3 o o2 o3 z
  | 5,_,_=>encF5 X Y Z n m1 n2 m2 n3 m3 o o2 o3 z
  | 6,_,_=>encF6 X Y Z n m1 n2 m2 n3 m3 o o2 o3 z
  | 7,_,_=>encF7 X Y Z n m1 n2 m2 n3 m3 o o2 o3 z
  | 8,_,_=>encF8 X Y Z n m1 n2 m2 n3 m3 o o2 o3 z
  | 9,_,_=>encF9 X Y Z n m1 n2 m2 n3 m3 o o2 o3 z
  | 10,_,_=>jds X Y Z n m1 n2 m2 n3 m3 o o2 o3 z
  | 11,_,_=>jes X Y Z n m1 n2 m2 n3 m3 o o2 o3 z
  | 12,_,_=>jfs X Y Z n m1 n2 m2 n3 m3 o o2 o3 z
  | 13,_,_=>jgs X Y Z n m1 n2 m2 n3 m3 o o2 o3 z
  | 14,_,_=>jhs X Y Z n m1 n2 m2 n3 m3 o o2 o3 z
  | 0,h,_=>absurd h (by omega)
  | m+15,_,h=>absurd h (by omega)
theorem jjg (X Y Z:Nat→BitVec 8) (n m1 n2 m2 n3 m3 l o o2 o3:Nat) (z:Nat→Nat→Nat):∀ m,1≤m→m≤13→qdh m X Y Z n m1 n2 m2 n3 m3 l o o2 o3 z=qeh m X Y Z n n2 n3 m3 l o o2 o3
  | 1,_,_=>encP1 X Y Z n m1 n2 m2 n3 m3 l o o2 o3 z
  | 2,_,_=>encP2 X Y Z n m1 n2 m2 n3 m3 l o o2 o3 z
  | 3,_,_=>encP3 X Y Z n m1 n2 m2 n3 m3 l o o2 o3 z
  | 4,_,_=>encP4 X Y Z n m1 n2 m2 n3 m3 l o o2 o3 z
  | 5,_,_=>encP5 X Y Z n m1 n2 m2 n3 m3 l o o2 o3 z
  | 6,_,_=>encP6 X Y Z n m1 n2 m2 n3 m3 l o o2 o3 z
  | 7,_,_=>encP7 X Y Z n m1 n2 m2 n3 m3 l o o2 o3 z
  | 8,_,_=>encP8 X Y Z n m1 n2 m2 n3 m3 l o o2 o3 z
  | 9,_,_=>encP9 X Y Z n m1 n2 m2 n3 m3 l o o2 o3 z
  | 10,_,_=>jis X Y Z n m1 n2 m2 n3 m3 l o o2 o3 z
  | 11,_,_=>jjs X Y Z n m1 n2 m2 n3 m3 l o o2 o3 z
  | 12,_,_=>jks X Y Z n m1 n2 m2 n3 m3 l o o2 o3 z
  | 13,_,_=>jls X Y Z n m1 n2 m2 n3 m3 l o o2 o3 z
  | 0,h,_=>absurd h (by omega)
  | m+14,_,h=>absurd h (by omega)
theorem jkg (X Y Z:Nat→BitVec 8) (n m1 n2 m2 n3 m3 o o2 o3:Nat) (z:Nat→Nat→Nat):∀ m,m≤12→qfh m X Y Z n m1 n2 m2 n3 m3 o o2 o3 z=qgh m X Y Z n n2 n3 m3 o o2 o3
  | 0,_=>decF0 X Y Z n m1 n2 m2 n3 m3 o o2 o3 z
  | 1,_=>decF1 X Y Z n m1 n2 m2 n3 m3 o o2 o3 z
  | 2,_=>decF2 X Y Z n m1 n2 m2 n3 m3 o o2 o3 z
  | 3,_=>decF3 X Y Z n m1 n2 m2 n3 m3 o o2 o3 z
  | 4,_=>decF4 X Y Z n m1 n2 m2 n3 m3 o o2 o3 z
  | 5,_=>decF5 X Y Z n m1 n2 m2 n3 m3 o o2 o3 z
  | 6,_=>decF6 X Y Z n m1 n2 m2 n3 m3 o o2 o3 z
  | 7,_=>decF7 X Y Z n m1 n2 m2 n3 m3 o o2 o3 z
  | 8,_=>decF8 X Y Z n m1 n2 m2 n3 m3 o o2 o3 z
  | 9,_=>decF9 X Y Z n m1 n2 m2 n3 m3 o o2 o3 z
  | 10,_=>jms X Y Z n m1 n2 m2 n3 m3 o o2 o3 z
  | 11,_=>jns X Y Z n m1 n2 m2 n3 m3 o o2 o3 z
  | 12,_=>jos X Y Z n m1 n2 m2 n3 m3 o o2 o3 z
  | m+13,h=>absurd h (by omega)
theorem jlg (X Y Z:Nat→BitVec 8) (n m1 n2 m2 n3 m3 l o o2 o3:Nat) (z:Nat→Nat→Nat):∀ m,m≤12→qhh m X Y Z n m1 n2 m2 n3 m3 l o o2 o3 z=qih m X Y Z n n2 n3 m3 l o o2 o3
  | 0,_=>decP0 X Y Z n m1 n2 m2 n3 m3 l o o2 o3 z
  | 1,_=>decP1 X Y Z n m1 n2 m2 n3 m3 l o o2 o3 z
  | 2,_=>decP2 X Y Z n m1 n2 m2 n3 m3 l o o2 o3 z
  | 3,_=>decP3 X Y Z n m1 n2 m2 n3 m3 l o o2 o3 z
  | 4,_=>decP4 X Y Z n m1 n2 m2 n3 m3 l o o2 o3 z
  | 5,_=>decP5 X Y Z n m1 n2 m2 n3 m3 l o o2 o3 z
  | 6,_=>decP6 X Y Z n m1 n2 m2 n3 m3 l o o2 o3 z
  | 7,_=>decP7 X Y Z n m1 n2 m2 n3 m3 l o o2 o3 z
  | 8,_=>decP8 X Y Z n m1 n2 m2 n3 m3 l o o2 o3 z
  | 9,_=>decP9 X Y Z n m1 n2 m2 n3 m3 l o o2 o3 z
  | 10,_=>jps X Y Z n m1 n2 m2 n3 m3 l o o2 o3 z
  | 11,_=>jqs X Y Z n m1 n2 m2 n3 m3 l o o2 o3 z
  | 12,_=>jrs X Y Z n m1 n2 m2 n3 m3 l o o2 o3 z
  | m+13,h=>absurd h (by omega)
theorem jmg:q2x 97 encF:=by
  intro X Y Z n m1 n2 m2 n3 m3 o o2 o3 l h1 h2 h3 h4 h5 h6
  by_cases hr:l % 16=0
  · obtain ⟨m,rfl⟩:∃ m,l=16 * m:=⟨l / 16,by omega⟩
    have hxs:encF (qha X o) (qha Y o2) (fun j=>Z (o3+j)) (16 * m)=encJ X Y o o2 (q4c Z o3 m):=by unfold encF encJ; rw [qn8]
    refine ⟨21+6 * m,.lit (16 * m),[],_,_,by omega,rfl,fun z=>jig X Y Z n m1 n2 m2 n3 m3 o o2 o3 z m (by omega) (by omega),j4c h1 h2 h3 h4,.inl ⟨by rw [hxs],?_⟩⟩
    rw [hxs]
    unfold encJ
    rw [qyh _ (fun b hb=>q8y _ _ _ b (qv5 _ _ hb)),qtp,qjq,qxh]
  · obtain ⟨m,hm,hm2⟩:∃ m,16 * m<l∧l<16 * m+16:=⟨l / 16,by omega,by omega⟩
    have hxs:encF (qha X o) (qha Y o2) (fun j=>Z (o3+j)) l=encJ X Y o o2 (app (q4c Z o3 m) [qha (qop Z l o3 (16 * m)) 0]):=by unfold encF encJ; rw [qo8 Z o3 m l hm hm2]
    exact ⟨28+6 * m,.sym l,_,_,_,by omega,rfl,fun z=>jjg X Y Z n m1 n2 m2 n3 m3 l o o2 o3 z m (by omega) (by omega),j5c h1 h2 h3 h4 (by omega) (by omega) hm hm2,.inr (by rw [hxs])⟩
theorem jng:q2x 98 decF:=by
  intro X Y Z n m1 n2 m2 n3 m3 o o2 o3 l h1 h2 h3 h4 h5 h6
  by_cases h16:l=16
  · subst h16
    have hxs:decF (qha X o) (qha Y o2) (fun j=>Z (o3+j)) 16=decJ X Y o o2 (q4c Z o3 1):=by unfold decF decJ; rw [j2c]
    refine ⟨18,.lit 16,[],_,_,by omega,rfl,fun z=>dec1 X Y Z n m1 n2 m2 n3 m3 o o2 o3 z,?_,.inl ⟨by rw [hxs],?_⟩⟩
    · exact qwe h1 h2 (all_cons (by omega) (qup (by omega) (all_cons (Nat.le_refl _) qba)))
    · rw [hxs]
      unfold decJ
      rw [qyh _ (qfk _ _ _),qjh,qxh]
  by_cases hr:l % 16=0
  · obtain ⟨m,rfl⟩:∃ m,l=16 * m+32:=⟨l / 16 - 2,by omega⟩
    have hxs:decF (qha X o) (qha Y o2) (fun j=>Z (o3+j)) (16 * m+32)=decJ X Y o o2 (swL (q4c Z o3 (m+2))):=by unfold decF decJ; rw [qp8]
    refine ⟨26+6 * m,.lit (16 * m+32),[],_,_,by omega,rfl,fun z=>jkg X Y Z n m1 n2 m2 n3 m3 o o2 o3 z m (by omega),j6c h1 h2 h3 h4,.inl ⟨by rw [hxs],?_⟩⟩
    rw [hxs]
    unfold decJ
    rw [qyh _ (qfk _ _ _),qjh,qtp,qxh]; omega
  · obtain ⟨m,hm,hm2⟩:∃ m,16 * m+16<l∧l<16 * m+32:=⟨l / 16 - 1,by omega,by omega⟩
    have hxs:decF (qha X o) (qha Y o2) (fun j=>Z (o3+j)) l=decJ X Y o o2 (app (q4c Z o3 m) [qha (q2j (qaa (q5e (qha X o))) Z l o3 (16 * m)) 0,qha Z (o3+16 * m)]):=by
      unfold decF decJ; rw [qq8 _ Z o3 m l hm hm2]
    exact ⟨28+6 * m,.sym l,_,_,_,by omega,rfl,fun z=>jlg X Y Z n m1 n2 m2 n3 m3 l o o2 o3 z m (by omega),j7c h1 h2 h3 h4 (by omega) hm hm2,.inr (by rw [hxs])⟩
end Go.Proofs.YtbmgahpjgefjaaaGreatDoor.Aes
