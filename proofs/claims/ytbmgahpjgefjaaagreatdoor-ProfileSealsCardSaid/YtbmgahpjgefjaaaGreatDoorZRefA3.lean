/-
  The reference's block cipher, third part: the words of a key; encrypting and decrypting.
-/
import Derived.Test.YtbmgahpjgefjaaaGreatDoorPk6
namespace Go.Proofs.YtbmgahpjgefjaaaGreatDoor.Aes
open Go.Sim
open Go.Proofs
variable {α:Type}
set_option maxRecDepth 1000000
noncomputable def repL (l:List Prop) (n:Nat):List Prop:=Nat.rec (motive:=fun _=>List Prop) [] (fun _ ih=>app l ih) n
theorem qdo {a b:List Prop} (ha:∀ p∈a,p) (hb:∀ p∈b,p):∀ p∈app a b,p:=by
  intro p hp
  rw [qeb] at hp
  rcases List.mem_append.1 hp with h | h
  · exact ha p h
  · exact hb p h
theorem qmu {l:List Prop} (h:∀ p∈l,p):∀ n,∀ p∈repL l n,p
  | 0=>fun _ hp=>by cases hp
  | n+1=>qdo h (qmu h n)
noncomputable def j0j:List (BitVec 8):=mapN (fun n=>BitVec.ofNat 8 n) subs
noncomputable def refB (x:BitVec 8):BitVec 8:=qaa j0j (0+x.toNat)
noncomputable def j1j:List (BitVec 8):=mapN (fun n=>BitVec.ofNat 8 n) recs
noncomputable def refI (x:BitVec 8):BitVec 8:=qaa j1j (0+x.toNat)
theorem qjz:(List.range 256).all (fun n=>(qaa j0j n).toNat == (qpj n).toNat && (qaa j1j n).toNat == (qpj (256+n)).toNat)=true:=by kernel_rfl
theorem qt5:refB=subB:=by
  funext x
  have h:=List.all_eq_true.1 qjz x.toNat (List.mem_range.2 x.isLt)
  rw [Bool.and_eq_true] at h
  apply BitVec.eq_of_toNat_eq
  have h1:=h.1
  unfold refB subB
  rw [Nat.zero_add]
  simpa using h1
theorem jnm:refI=recB:=by
  funext x
  have h:=List.all_eq_true.1 qjz x.toNat (List.mem_range.2 x.isLt)
  rw [Bool.and_eq_true] at h
  apply BitVec.eq_of_toNat_eq
  have h1:=h.2
  unfold refI recB
  rw [Nat.zero_add]
  simpa using h1
noncomputable def nextS (S:BitVec 8→BitVec 8) (f:BitVec 8) (k:List (BitVec 8)):List (BitVec 8) :=
  let n0:=qaa k 0 ^^^ (S (qaa k 13) ^^^ f)
  let n1:=qaa k 1 ^^^ S (qaa k 14)
  let n2:=qaa k 2 ^^^ S (qaa k 15)
  let n3:=qaa k 3 ^^^ S (qaa k 12)
  let n4:=qaa k 4 ^^^ n0
  let n5:=qaa k 5 ^^^ n1
  let n6:=qaa k 6 ^^^ n2
  let n7:=qaa k 7 ^^^ n3
  let n8:=qaa k 8 ^^^ n4
  let n9:=qaa k 9 ^^^ n5
  let na:=qaa k 10 ^^^ n6
  let nb:=qaa k 11 ^^^ n7
  [n0,n1,n2,n3,n4,n5,n6,n7,n8,n9,na,nb,qaa k 12 ^^^ n8,qaa k 13 ^^^ n9,qaa k 14 ^^^ na,qaa k 15 ^^^ nb]
noncomputable def jhc (S:BitVec 8→BitVec 8) (n:Nat):Nat→List (BitVec 8)→List (BitVec 8) :=
  Nat.rec (motive:=fun _=>Nat→List (BitVec 8)→List (BitVec 8)) (fun _ k=>k) (fun _ ih r k=>app k (ih (Nat.succ r) (nextS S (powB r) k))) n
noncomputable def j2j (S:BitVec 8→BitVec 8) (k:List (BitVec 8)):List (BitVec 8):=jhc S 10 0 k
theorem j2f (k:List (BitVec 8)):j2j refB k=qve k:=by rw [qt5]; rfl
noncomputable def qjl (S:BitVec 8→BitVec 8) (K:Nat→BitVec 8) (r:Nat) (xs:List (BitVec 8)):List (BitVec 8):=addL (mixL true (qbo (mapL S xs))) (rkey K r)
noncomputable def encS (S:BitVec 8→BitVec 8) (K:Nat→BitVec 8) (xs:List (BitVec 8)):List (BitVec 8) :=
  addL (qbo (mapL S (qjl S K 9 (qjl S K 8 (qjl S K 7 (qjl S K 6 (qjl S K 5 (qjl S K 4 (qjl S K 3 (qjl S K 2 (qjl S K 1 (addL xs (rkey K 0))))))))))))) (rkey K 10)
theorem jom (K:Nat→BitVec 8) (xs:List (BitVec 8)):encS refB K xs=encL K xs:=by rw [qt5]; rfl
noncomputable def qkl (S:BitVec 8→BitVec 8) (K:Nat→BitVec 8) (r:Nat) (xs:List (BitVec 8)):List (BitVec 8):=mapL S (q7j (mixL false (addL xs (rkey K r))))
noncomputable def decS (S:BitVec 8→BitVec 8) (K:Nat→BitVec 8) (xs:List (BitVec 8)):List (BitVec 8) :=
  addL (qkl S K 1 (qkl S K 2 (qkl S K 3 (qkl S K 4 (qkl S K 5 (qkl S K 6 (qkl S K 7 (qkl S K 8 (qkl S K 9 (mapL S (q7j (addL xs (rkey K 10))))))))))))) (rkey K 0)
theorem jpm (K:Nat→BitVec 8) (xs:List (BitVec 8)):decS refI K xs=decL K xs:=by rw [jnm]; rfl
theorem qj8 (X:Nat→BitVec 8) (n m o:Nat):outP [413] (qba qil 20000 64 [.slice ⟨1,.sym o⟩ (.lit 16) (.sym m)] [tabR,rowF X n]) =
    ([o+16≤n],some (.slice ⟨413,.lit 0⟩ (.lit 176) (.rest 413 0),[some (.own (.lst (bx (j2j refB (qha X o)))) false 5)])):=by kernel_rfl
theorem j3f (X W:Nat→BitVec 8) (n m o o2 n2 m2:Nat):outP [32] (qba qil 20000 93 [.slice ⟨1,.sym o2⟩ (.lit 176) (.sym m2),.slice ⟨2,.sym o⟩ (.lit 16) (.sym m)] [tabR,rowF W n2,rowF X n]) =
    (app [IsB (qea X),IsB (qea W),o+16≤n∧o2+176≤n2] (app (repL [0+16≤16,IsB (qea W),0+16≤16∧o2+176≤n2] 9) [IsB (qea W),0+16≤16∧o2+176≤n2]),
      some (.slice ⟨32,.lit 0⟩ (.lit 16) (.lit 16),[some (.own (.lst (bx (encS refB (at2 W o2) (qha X o)))) true 5)])):=by kernel_rfl
theorem j4f (X W:Nat→BitVec 8) (n m o o2 n2 m2:Nat):outP [33] (qba qil 20000 66 [.slice ⟨1,.sym o2⟩ (.lit 176) (.sym m2),.slice ⟨2,.sym o⟩ (.lit 16) (.sym m)] [tabR,rowF W n2,rowF X n]) =
    (app [IsB (qea X),IsB (qea W),o+16≤n∧o2+176≤n2] (app (repL [IsB (qea W),0+16≤16∧o2+176≤n2,0+16≤16] 9) [IsB (qea W),0+16≤16∧o2+176≤n2]),
      some (.slice ⟨33,.lit 0⟩ (.lit 16) (.lit 16),[some (.own (.lst (bx (decS refI (at2 W o2) (qha X o)))) true 5)])):=by kernel_rfl
end Go.Proofs.YtbmgahpjgefjaaaGreatDoor.Aes
