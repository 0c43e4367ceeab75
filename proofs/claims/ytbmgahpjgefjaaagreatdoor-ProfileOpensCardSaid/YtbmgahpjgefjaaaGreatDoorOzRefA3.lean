/-
  The reference's block cipher, third part: the words of a key; encrypting and decrypting.
-/
import Derived.Test.YtbmgahpjgefjaaaGreatDoorPo6
namespace Go.Proofs.YtbmgahpjgefjaaaGreatDoor.Aes
open Go.Sim
open Go.Proofs
variable {α:Type}
set_option maxRecDepth 1000000
noncomputable def repL (l:List Prop) (n:Nat):List Prop:=Nat.rec (motive:=fun _=>List Prop) [] (fun _ ih=>app l ih) n
theorem qbo {a b:List Prop} (ha:∀ p∈a,p) (hb:∀ p∈b,p):∀ p∈app a b,p:=by
  intro p hp
  rw [qhb] at hp
  rcases List.mem_append.1 hp with h | h
  · exact ha p h
  · exact hb p h
theorem q9t {l:List Prop} (h:∀ p∈l,p):∀ n,∀ p∈repL l n,p
  | 0=>fun _ hp=>by cases hp
  | n+1=>qbo h (q9t h n)
noncomputable def jvk:List (BitVec 8):=mapN (fun n=>BitVec.ofNat 8 n) subs
noncomputable def refB (x:BitVec 8):BitVec 8:=qaa jvk (0+x.toNat)
noncomputable def jwk:List (BitVec 8):=mapN (fun n=>BitVec.ofNat 8 n) recs
noncomputable def refI (x:BitVec 8):BitVec 8:=qaa jwk (0+x.toNat)
theorem q7y:(List.range 256).all (fun n=>(qaa jvk n).toNat == (qlj n).toNat && (qaa jwk n).toNat == (qlj (256+n)).toNat)=true:=by kernel_rfl
theorem qr5:refB=subB:=by
  funext x
  have h:=List.all_eq_true.1 q7y x.toNat (List.mem_range.2 x.isLt)
  rw [Bool.and_eq_true] at h
  apply BitVec.eq_of_toNat_eq
  have h1:=h.1
  unfold refB subB
  rw [Nat.zero_add]
  simpa using h1
theorem jhn:refI=recB:=by
  funext x
  have h:=List.all_eq_true.1 q7y x.toNat (List.mem_range.2 x.isLt)
  rw [Bool.and_eq_true] at h
  apply BitVec.eq_of_toNat_eq
  have h1:=h.2
  unfold refI recB
  rw [Nat.zero_add]
  simpa using h1
noncomputable def nextS (S:BitVec 8→BitVec 8) (f:BitVec 8) (k:List (BitVec 8)):List (BitVec 8) :=
  let n0:=qaa k 0 ^^^ (S (qaa k 13) ^^^ f)
  let n1:=qaa k 1 ^^^ S (qaa k 14)
  let n2:=qaa k 2 ^^^ S (qaa k 15)
  let n3:=qaa k 3 ^^^ S (qaa k 12)
  let n4:=qaa k 4 ^^^ n0
  let n5:=qaa k 5 ^^^ n1
  let n6:=qaa k 6 ^^^ n2
  let n7:=qaa k 7 ^^^ n3
  let n8:=qaa k 8 ^^^ n4
  let n9:=qaa k 9 ^^^ n5
  let na:=qaa k 10 ^^^ n6
  let nb:=qaa k 11 ^^^ n7
  [n0,n1,n2,n3,n4,n5,n6,n7,n8,n9,na,nb,qaa k 12 ^^^ n8,qaa k 13 ^^^ n9,qaa k 14 ^^^ na,qaa k 15 ^^^ nb]
noncomputable def jvc (S:BitVec 8→BitVec 8) (n:Nat):Nat→List (BitVec 8)→List (BitVec 8) :=
  Nat.rec (motive:=fun _=>Nat→List (BitVec 8)→List (BitVec 8)) (fun _ k=>k) (fun _ ih r k=>app k (ih (Nat.succ r) (nextS S (powB r) k))) n
noncomputable def jxk (S:BitVec 8→BitVec 8) (k:List (BitVec 8)):List (BitVec 8):=jvc S 10 0 k
theorem j9f (k:List (BitVec 8)):jxk refB k=q5e k:=by rw [qr5]; rfl
noncomputable def qgl (S:BitVec 8→BitVec 8) (K:Nat→BitVec 8) (r:Nat) (xs:List (BitVec 8)):List (BitVec 8):=addL (mixL true (q9n (mapL S xs))) (rkey K r)
noncomputable def encS (S:BitVec 8→BitVec 8) (K:Nat→BitVec 8) (xs:List (BitVec 8)):List (BitVec 8) :=
  addL (q9n (mapL S (qgl S K 9 (qgl S K 8 (qgl S K 7 (qgl S K 6 (qgl S K 5 (qgl S K 4 (qgl S K 3 (qgl S K 2 (qgl S K 1 (addL xs (rkey K 0))))))))))))) (rkey K 10)
theorem jin (K:Nat→BitVec 8) (xs:List (BitVec 8)):encS refB K xs=encL K xs:=by rw [qr5]; rfl
noncomputable def qhl (S:BitVec 8→BitVec 8) (K:Nat→BitVec 8) (r:Nat) (xs:List (BitVec 8)):List (BitVec 8):=mapL S (q0j (mixL false (addL xs (rkey K r))))
noncomputable def decS (S:BitVec 8→BitVec 8) (K:Nat→BitVec 8) (xs:List (BitVec 8)):List (BitVec 8) :=
  addL (qhl S K 1 (qhl S K 2 (qhl S K 3 (qhl S K 4 (qhl S K 5 (qhl S K 6 (qhl S K 7 (qhl S K 8 (qhl S K 9 (mapL S (q0j (addL xs (rkey K 10))))))))))))) (rkey K 0)
theorem jjn (K:Nat→BitVec 8) (xs:List (BitVec 8)):decS refI K xs=decL K xs:=by rw [jhn]; rfl
theorem qk8 (X:Nat→BitVec 8) (n m o:Nat):outP [413] (qca qfl 20000 64 [.slice ⟨1,.sym o⟩ (.lit 16) (.sym m)] [tabR,rowF X n]) =
    ([o+16≤n],some (.slice ⟨413,.lit 0⟩ (.lit 176) (.rest 413 0),[some (.own (.lst (bx (jxk refB (qha X o)))) false 5)])):=by kernel_rfl
theorem jag (X W:Nat→BitVec 8) (n m o o2 n2 m2:Nat):outP [32] (qca qfl 20000 93 [.slice ⟨1,.sym o2⟩ (.lit 176) (.sym m2),.slice ⟨2,.sym o⟩ (.lit 16) (.sym m)] [tabR,rowF W n2,rowF X n]) =
    (app [IsB (qda X),IsB (qda W),o+16≤n∧o2+176≤n2] (app (repL [0+16≤16,IsB (qda W),0+16≤16∧o2+176≤n2] 9) [IsB (qda W),0+16≤16∧o2+176≤n2]),
      some (.slice ⟨32,.lit 0⟩ (.lit 16) (.lit 16),[some (.own (.lst (bx (encS refB (at2 W o2) (qha X o)))) true 5)])):=by kernel_rfl
theorem jbg (X W:Nat→BitVec 8) (n m o o2 n2 m2:Nat):outP [33] (qca qfl 20000 66 [.slice ⟨1,.sym o2⟩ (.lit 176) (.sym m2),.slice ⟨2,.sym o⟩ (.lit 16) (.sym m)] [tabR,rowF W n2,rowF X n]) =
    (app [IsB (qda X),IsB (qda W),o+16≤n∧o2+176≤n2] (app (repL [IsB (qda W),0+16≤16∧o2+176≤n2,0+16≤16] 9) [IsB (qda W),0+16≤16∧o2+176≤n2]),
      some (.slice ⟨33,.lit 0⟩ (.lit 16) (.lit 16),[some (.own (.lst (bx (decS refI (at2 W o2) (qha X o)))) true 5)])):=by kernel_rfl
end Go.Proofs.YtbmgahpjgefjaaaGreatDoor.Aes
